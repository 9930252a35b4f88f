/- Texts of the proof of a law, put together, part 29 of 35. Conditions: none beyond those that each theorem names. -/
import Derived.Test.YtihgnpobkpnipaaGreatDoorMz4
import Derived.Test.YtihgnpobkpnipaaGreatDoorMz5
import Derived.Test.YtihgnpobkpnipaaGreatDoorMz9
import Derived.Test.YtihgnpobkpnipaaGreatDoorMz21
import Derived.Test.YtihgnpobkpnipaaGreatDoorMz28
namespace Go.Proofs.YtihgnpobkpnipaaGreatDoor
open Go.RowKit Go.Sort Go.Maps
theorem catsF_noAlt {ps : List Prt} {l : List Alt} (h : catsF ps l = 0) : catsF ps [] = 0 := by
  obtain ⟨h1, h2, _, _⟩ := catsF_ok h
  unfold catsF
  rw [if_neg (by omega), if_neg (by rw [h2]; decide)]
  simp [altsF1, waysL, twiceB]
theorem shortK_noAlt (need hv : List Stk) : shortK [] need hv = shortF (needK need) (needK hv) (keysK need) := by
  unfold shortK
  rw [shortG_nil nextL_noAlt]
  rfl
theorem stksF1_set {ps : List Prt} {x : Stk} {y : ByteArray} (hy : stkG y = true) : ∀ (l : List Stk) (p : Option ByteArray) (i : Nat), l[i]? = some x → stksF1 ps p l = 0 → stksF1 ps p (l.set i (x.1, y)) = 0
  | [], _, _, h, _ => by simp at h
  | z :: r, p, 0, h, h0 => by
    have e : z = x := by simpa using h
    subst e
    rw [stksF1] at h0
    by_cases q : stkF ps p z = 0
    · rw [if_pos q] at h0
      have q2 : stkF ps p (z.1, y) = 0 := by
        unfold stkF at q ⊢
        by_cases a : hasP ps z.1 = false
        · rw [if_pos a] at q; exact absurd q (by decide)
        · rw [if_neg a] at q
          rw [if_neg a, if_neg (by rw [hy]; decide)]
          by_cases b : stkG z.2 = false
          · rw [if_pos b] at q; exact absurd q (by decide)
          · rw [if_neg b] at q; exact q
      rw [List.set_cons_zero, stksF1, if_pos q2]
      exact h0
    · rw [if_neg q] at h0; exact absurd h0 q
  | z :: r, p, i + 1, h, h0 => by
    rw [stksF1] at h0
    rw [List.set_cons_succ, stksF1]
    by_cases q : stkF ps p z = 0
    · rw [if_pos q] at h0 ⊢
      exact stksF1_set hy r _ i (by simpa using h) h0
    · rw [if_neg q] at h0; exact absurd h0 q
theorem keysK_set {l : List Stk} {i : Nat} {x : Stk} (h : l[i]? = some x) (y : ByteArray) : keysK (l.set i (x.1, y)) = keysK l := by
  obtain ⟨hi, e⟩ := List.getElem?_eq_some_iff.1 h
  unfold keysK
  rw [List.map_set]
  have : bsOf x.1 = (l.map fun x => bsOf x.1)[i]'(by simpa using hi) := by simp [e]
  show (l.map fun x => bsOf x.1).set i (bsOf x.1) = _
  rw [this, List.set_getElem_self]
theorem needK_no {l : List Stk} {p : Bs} (h : p ∉ keysK l) : needK l p = 0 := by
  unfold needK mapK
  rw [amtM_other _ _ fun q hq e => h (by
    obtain ⟨x, hx, rfl⟩ := List.mem_map.1 hq
    exact List.mem_map.2 ⟨x, hx, e⟩)]
  rfl
theorem needK_in {need : List Stk} (h : Srt (keysK need)) {x : Stk} (hx : x ∈ need) : needK need (bsOf x.1) = stkN x.2 := by unfold needK; rw [mapK_get h hx]; rfl
theorem needK_set {l : List Stk} {i : Nat} {x : Stk} {y : ByteArray} (hs : Srt (keysK l)) (h : l[i]? = some x) (hy : stkN x.2 ≤ stkN y) (p : Bs) : needK l p ≤ needK (l.set i (x.1, y)) p := by
  have hk := keysK_set h y
  by_cases hp : p ∈ keysK l
  · obtain ⟨z, hz, rfl⟩ := List.mem_map.1 hp
    obtain ⟨j, hj⟩ := List.mem_iff_getElem?.1 hz
    rw [needK_in hs hz]
    obtain ⟨hi, e⟩ := List.getElem?_eq_some_iff.1 h
    by_cases e2 : i = j
    · subst e2
      rw [h] at hj
      injection hj with hj
      subst hj
      have hm : (x.1, y) ∈ l.set i (x.1, y) := List.mem_of_getElem? (List.getElem?_set_self hi)
      have := needK_in (by rw [hk]; exact hs) hm
      rw [this]
      exact hy
    · have hm : z ∈ l.set i (x.1, y) := List.mem_of_getElem? (by rw [List.getElem?_set_ne e2]; exact hj)
      rw [needK_in (by rw [hk]; exact hs) hm]
      exact Int.le_refl _
  · rw [needK_no hp, needK_no (by rw [hk]; exact hp)]
    exact Int.le_refl _
/-- the law. -/
theorem ms_more {ps : List Prt} {need hv : List Stk} {i : Nat} {x : Stk} {y : ByteArray} (hn : stksF ps need = 0) (hh : stksF ps hv = 0) (h : hv[i]? = some x) (hy : stkN x.2 ≤ stkN y) : ∀ p ∈ (shortK [] need (hv.set i (x.1, y))).map baOf, p ∈ (shortK [] need hv).map baOf := by
  intro p hp
  obtain ⟨q, hq, rfl⟩ := List.mem_map.1 hp
  refine List.mem_map.2 ⟨q, ?_, rfl⟩
  rw [shortK_noAlt] at hq ⊢
  exact short_mono (needK_set (stksF_ok hh).1 h hy) (stksF_ok hn).1.nodup q hq
theorem ms_self {ps : List Prt} {hv : List Stk} (hh : stksF ps hv = 0) : shortK [] hv hv = [] := by
  rw [shortK_noAlt]
  exact short_self _ (stksF_ok hh).1.nodup
theorem itoa_stk {n : Int} (h : 0 ≤ n ∧ n ≤ 15) : stkG ⟨(Lib.itoa n).toArray⟩ = true ∧ stkN ⟨(Lib.itoa n).toArray⟩ = n ∧ (⟨(Lib.itoa n).toArray⟩ : ByteArray).size ≤ 8 := by
  have h1 : ((List.range 16).all fun n => stkG ⟨(Lib.itoa (n : Int)).toArray⟩ && (decide (stkN ⟨(Lib.itoa (n : Int)).toArray⟩ = (n : Int)) && decide ((⟨(Lib.itoa (n : Int)).toArray⟩ : ByteArray).size ≤ 8))) = true := by kernel_rfl
  obtain ⟨k, rfl⟩ := Int.eq_ofNat_of_zero_le h.1
  have h2 := List.all_eq_true.1 h1 k (List.mem_range.2 (by omega))
  rw [Bool.and_eq_true, Bool.and_eq_true, decide_eq_true_eq, decide_eq_true_eq] at h2
  exact h2
/-! the question: is one of them not in the other list? -/
set_option maxHeartbeats 1000000 in
theorem msC_any (k : ByteArray) (ws : List ByteArray) (vw : Value) (X : Nat) (W : World) (hlen : ws.length ≤ 100000) (hX : W.cell? ⟨X, 0, none⟩ = some vw) (rw' : RecR TS W 0 vw ws) (hk : k ∈ ws) :
    Calls Tryz.prog 28 #[.string k, .pointer (some ⟨X, 0, none⟩)] W fun e w' => e = .returned (.bool false) ∧ Below W.heap.size W w' := by
  have HC := HasS_any ws vw k W hlen rw'
  rw [(Lib.containsS_iff _ _).2 hk] at HC
  have HC := Lib.hid HC
  obtain ⟨a, n, cap, hv⟩ : ∃ a n cap, vw = .slice a n cap := by obtain ⟨a, cap, hv, _, _⟩ := rw'.form; exact ⟨a, _, cap, hv⟩
  subst hv
  clear rw' hlen hk
  go_enter Tryz.func28, Tryz.ntmps28
  go_wp2_with fail
  refine HC.out.mono ?_
  rintro e w' ⟨rfl, rfl⟩
  go_wp2
  go_ret
  exact ⟨rfl, Below.refl _ _⟩
set_option maxHeartbeats 1000000 in
theorem msI_any (w : World) (X : Nat) (ks ws : List ByteArray) (v vw : Value) (hlen : ks.length ≤ 100000) (hlw : ws.length ≤ 100000) (rl : RecR TS w 0 v ks) (hX : w.cell? ⟨X, 0, none⟩ = some vw) (rw' : RecR TS w 0 vw ws) (hk : ∀ k ∈ ks, k ∈ ws) :
    Calls Tryz.prog 73 #[v, .func (.func 28) #[] #[.pointer (some ⟨X, 0, none⟩)]] w fun e w' => e = .returned (.int .i64 (-1)) ∧ Below w.heap.size w w' := by
  have lX := World.block_lt_of_cell? _ _ hX
  simp only at lX
  have HQ := Lib.hid fun (W : World) (hW : Below w.heap.size w W) (k : ByteArray) (hm : k ∈ ks) => msC_any k ws vw X W hlw (((bcell hW).1 X 0 lX).trans hX) (rw'.below hW) (hk k hm)
  obtain ⟨a, n, cap, hv, hn⟩ : ∃ a n cap, v = .slice a n cap ∧ n = ks.length := by obtain ⟨a, cap, hv, _, _⟩ := rl.form; exact ⟨a, _, cap, hv, rfl⟩
  subst hv
  have RL := Lib.hid rl
  have HNL := Lib.hid hn
  have hn5 : n ≤ 100000 := by omega
  clear rl hn hlen hX rw' hk hlw
  go_enter Tryz.func73, Tryz.ntmps73
  go_wp2
  go_loopw [8] (fun i wr => ∃ k : Nat, k ≤ n ∧ i = .int .i64 k ∧ Below w.heap.size w wr) (fun i _ => n - (intOf i).toNat)
  case atStart => exact ⟨0, Nat.zero_le _, rfl, Below.refl _ _⟩
  case round =>
    obtain ⟨k, hk, rfl, hb⟩ := hrel
    by_cases hlt : k < n
    · obtain ⟨t, ht⟩ : ∃ t, ks[k]? = some t := ⟨_, List.getElem?_eq_getElem (by rw [← HNL.out]; exact hlt)⟩
      have HC := Lib.hid (HQ.out wr hb t (List.mem_of_getElem? ht))
      obtain ⟨b2', o2, rfl, _, hl2, hx2⟩ := str_at (RL.out.below hb) ht
      clear ht
      go_wp2_with (go_at_call 28; refine HC.out.mono ?_; rintro e w2 ⟨rfl, hb2⟩)
      go_roundw
      case rel => exact ⟨k + 1, by omega, by go_num, hb.trans (hb2.mono hb.size)⟩
      case measure => simp [intOf]; omega
    · go_wp2
      go_ret
      exact ⟨rfl, hb⟩
set_option maxHeartbeats 1000000 in
theorem msH_any (w : World) (X : Nat) (ks ws : List ByteArray) (v vw : Value) (hlen : ks.length ≤ 100000) (hlw : ws.length ≤ 100000) (rl : RecR TS w 0 v ks) (hX : w.cell? ⟨X, 0, none⟩ = some vw) (rw' : RecR TS w 0 vw ws) (hk : ∀ k ∈ ks, k ∈ ws) :
    Calls Tryz.prog 27 #[v, .func (.func 28) #[] #[.pointer (some ⟨X, 0, none⟩)]] w fun e w' => e = .returned (.bool false) ∧ Below w.heap.size w w' := by
  have HI := Lib.hid (msI_any w X ks ws v vw hlen hlw rl hX rw' hk)
  clear rl hX rw' hk hlen hlw
  go_enter Tryz.func27, Tryz.ntmps27
  go_wp2_with fail
  refine HI.out.mono ?_
  rintro e w2 ⟨rfl, hb⟩
  go_wp2
  go_ret
  exact ⟨rfl, hb⟩
end Go.Proofs.YtihgnpobkpnipaaGreatDoor
namespace Go.Proofs.YtihgnpobkpnipaaGreatDoor
open Go.RowKit Go.Sort
set_option maxHeartbeats 1000000 in
set_option maxRecDepth 100000 in
theorem ClonePa_any {l : List _} (v : Value) (w : World) (hlen : l.length ≤ 1000000) (rl : RecR TPa w 0 v l) :
    Calls Tryz.prog 22 #[v] w fun e w' => ∃ v', e = .returned v' ∧ OwnR TPa w' w.heap.size v' l ∧ Below w.heap.size w w' := by
  have q51 : ∀ (w : World) (a : Option Addr) (n c n' c' : Nat), (binOp .eql 42 (.slice a n c) (.slice none n' c')).run Tryz.prog w = .ok (.bool a.isNone) w := fun w a n c n' c' => Lib.run_eql_slice_nil w _ _ a n c n' c' Tryz.underlying42
  obtain ⟨a, cap, rfl, h1, h2⟩ := rl.form
  cases a with
  | none =>
    have hn : l = [] := by
      cases l with
      | nil => rfl
      | cons x r =>
        obtain ⟨b, o, e, _⟩ := rl.at TPa.ok.len (i := 0) (x := x) rfl TPa.ok.pos
        cases e
    subst hn
    clear rl
    go_enter Tryz.func22, Tryz.ntmps22
    go_wp2
    go_ret
    exact ⟨_, rfl, OwnR.nil _ _, Below.refl _ _⟩
  | some ad =>
    obtain ⟨_, _, hv, _, _, h3⟩ := rl
    obtain ⟨rfl, _, _⟩ := Value.slice.inj hv
    have HC : Hid (∀ j u, (l.flatMap TPa.f)[j]? = some u → (w.alloc (.cells #[] TPa.e)).cell? (ad.add j) = some u) := Lib.hid (by
      intro j u hj
      obtain ⟨b', o', e, _, hb, hcell⟩ := h3 j u hj
      injection e with e
      subst e
      have : (⟨b', o', none⟩ : Addr).add j = ⟨b', o' + j, none⟩ := by unfold Addr.add; split <;> simp_all
      rw [this]
      exact (World.cell?_alloc_past _ _ _ hb).trans hcell)
    obtain ⟨i, hi, hz0, hz1, hz2⟩ := info_parts TPa.ok.info
    have HL := Lib.hid hlen
    have HF := Lib.hid (flat_len TPa.ok.len l)
    have HO := Lib.hid (fun u (hu : u ∈ l.flatMap TPa.f) => by
      obtain ⟨x, _, hx⟩ := List.mem_flatMap.1 hu
      exact TPa.ok.one x u hx)
    have HB := Lib.hid (Nat.mul_le_mul (show l.length ≤ 1000000 from hlen) TPa.ok.small)
    clear hv h3 hlen
    go_enter Tryz.func22, Tryz.ntmps22
    go_wp2_with (at_builtin; refine wpList_append_own _ rfl _ _ TPa.S rfl w.heap.size TPa.e i _ TPa.k TPa.b TPa.ok.sl hi hz0 hz1 hz2 TPa.ok.zs TPa.ok.pos _ 0 [] rfl (World.ownsRow_made w #[] 0 (Nat.le_refl _) (by decide) rfl) ad l.length cap (l.flatMap TPa.f) rfl HF.out HC.out HO.out (by unfold maxLen; have := HL.out; omega) (by have := HB.out; rw [Nat.zero_add]; omega) (by simp) ?c2)
    case c2 =>
      intro v' w' h4 h5 _
      have hbw : Below w.heap.size w w' := by
        have hg := h5
        refine ⟨hg.os, hg.tape, hg.output, Nat.le_trans (by simp) hg.size, fun k hk => ?_⟩
        rw [hg.block k (by simp; omega) (by simp [Value.ownBlock]; omega)]
        exact heap_alloc_old w _ hk
      go_wp2
      go_ret
      exact ⟨_, rfl, by unfold OwnR; simpa using h4, hbw⟩
end Go.Proofs.YtihgnpobkpnipaaGreatDoor
