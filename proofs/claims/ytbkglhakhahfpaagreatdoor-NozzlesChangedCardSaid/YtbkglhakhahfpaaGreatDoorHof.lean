/- The contract of HeldOf: it holds what the program holds, in order. Conditions: at most 2000 kinds, 1 to 8 holders. · The contract of HeldOf, whole. Conditions: at most 2000 kinds, 1 to 8 holders. -/
import Derived.Test.YtbkglhakhahfpaaGreatDoorHol
import Derived.Test.YtbkglhakhahfpaaGreatDoorHd8
import Derived.Test.YtbkglhakhahfpaaGreatDoorCmq
import Derived.Deep.RegionHeld2
import Derived.Laws.EntriesVeiled
namespace Go.Proofs.YtbkglhakhahfpaaGreatDoor
open Go.RowKit Go.Sort

theorem cmpB_neg : ∀ x y : List UInt8, Lib.compareBytes x y < 0 ↔ Op.bytesLess x y = true
  | [], [] => by simp [Lib.compareBytes, Op.bytesLess]
  | [], _ :: _ => by simp [Lib.compareBytes, Op.bytesLess]
  | _ :: _, [] => by simp [Lib.compareBytes, Op.bytesLess]
  | a :: x, b :: y => by
    rw [Lib.compareBytes, bl_cons]
    by_cases h1 : a < b
    · simp [h1]
    · by_cases h2 : b < a
      · have hne : ¬ a = b := fun e => by subst e; exact absurd h2 (UInt8.lt_irrefl a)
        simp [h1, h2, hne]
      · have he : a = b := u8_eq (by have := mt (u8_lt a b).2 h1; have := mt (u8_lt b a).2 h2; omega)
        subst he
        rw [if_neg h1, if_neg h1, cmpB_neg x y]
        simp [h1]
/-- how the reference compares two names. -/
def lateV (l : List Nm) (a b : Nm) : Int := orF [cmpI (agR l b) (agR l a), Lib.compareBytes a.data.toList b.data.toList]
theorem lateV_neg (l : List Nm) (a b : Nm) : lateV l a b < 0 ↔ lateC nlt l a b < 0 := by
  rw [lateC_neg nlt]
  unfold lateV
  have hb : Lib.compareBytes a.data.toList b.data.toList < 0 ↔ nlt a b = true := by
    unfold nlt
    rw [ByteArray.toList_eq, ByteArray.toList_eq]
    exact cmpB_neg _ _
  by_cases h1 : agR l b < agR l a
  · have : cmpI (agR l b) (agR l a) = -1 := by unfold cmpI; rw [if_pos h1]
    rw [this]
    simp [orF, h1]
  · by_cases h2 : agR l a < agR l b
    · have : cmpI (agR l b) (agR l a) = 1 := by unfold cmpI; rw [if_neg h1, if_pos h2]
      rw [this]
      simp only [orF]
      constructor
      · intro h; simp at h
      · rintro (h | ⟨h, _⟩) <;> omega
    · have h3 : cmpI (agR l b) (agR l a) = 0 := by unfold cmpI; rw [if_neg h1, if_neg h2]
      rw [h3]
      have he : agR l a = agR l b := by omega
      simp only [orF, if_true]
      constructor
      · intro h
        refine .inr ⟨he, hb.1 ?_⟩
        by_cases h4 : Lib.compareBytes a.data.toList b.data.toList = 0
        · rw [if_pos h4] at h; exact absurd h (by decide)
        · rw [if_neg h4] at h; exact h
      · rintro (h | ⟨_, h⟩)
        · omega
        · have h5 := hb.2 h
          rw [if_neg (by omega)]; exact h5
theorem ragain_any (l : List Nm) (x : Nm) (v : Value) (w : World) (hlen : l.length ≤ 100000) (rl : RecR TS w 0 v l) :
    Calls Tryz.prog 130 #[v, .string x] w fun e w' => e = .returned (.int .i64 (agR l x)) ∧ w = w' := by
  have HI := Lib.hid (IndexS_any l v x w hlen rl)
  obtain ⟨a, cap, rfl, hc1, hc2⟩ := rl.form
  by_cases hm : x ∈ l
  · rw [idxOfS_in hm] at HI
    have HL : Hid (agR l x = ((idxD x l : Nat) : Int)) := Lib.hid (by unfold agR; rw [if_pos hm]; rfl)
    clear hm rl
    go_enter Tryz.func130, Tryz.ntmps130
    go_wp2_with fail
    refine HI.out.mono ?_
    rintro e w' ⟨rfl, rfl⟩
    go_wp2
    go_ret
    exact ⟨ret_int (by rw [HL.out]), rfl⟩
  · rw [idxOfS_out hm] at HI
    have HL : Hid (agR l x = (l.length : Int) + 1) := Lib.hid (by unfold agR; rw [if_neg hm])
    have hw : IntKind.i64.wrap ((l.length : Int) + 1) = (l.length : Int) + 1 := IntWalk.i64_in _ (by omega)
    clear hm rl
    go_enter Tryz.func130, Tryz.ntmps130
    go_wp2_with fail
    refine HI.out.mono ?_
    rintro e w' ⟨rfl, rfl⟩
    go_wp2
    go_ret
    exact ⟨ret_int (by rw [HL.out]), rfl⟩
/-- the boxes that the comparison reads. -/
structure Hcx (w : World) (gK gI : Nat) (ka : Option Addr) (kcap : Nat) (ks : List Nm) (i : Nat) : Prop where
  hK : w.heap[gK]? = some (.cells #[.slice ka ks.length kcap] 59 (0, 0))
  hI : w.heap[gI]? = some (.cells #[.int .i64 i] 3 (0, 0))
  rk : RecR TS w 0 (.slice ka ks.length kcap) ks
theorem Hcx.below {w w' : World} {gK gI : Nat} {ka : Option Addr} {kcap : Nat} {ks : List Nm} {i : Nat} (h : Hcx w gK gI ka kcap ks i) (hb : Below w.heap.size w w') : Hcx w' gK gI ka kcap ks i :=
  ⟨blk_below h.hK hb, blk_below h.hI hb, h.rk.below hb⟩
set_option maxHeartbeats 4000000 in
set_option maxRecDepth 100000 in
theorem heldCmp_any (gK gI : Nat) (ka : Option Addr) (kcap : Nat) (ks : List Nm) (i : Nat) (a b : Nm) (w : World) (hi : i < ks.length) (hlen : ks.length ≤ 2000) (hx : Hcx w gK gI ka kcap ks i) :
    Calls Tryz.prog 129 #[.string a, .string b, .pointer (some ⟨gK, 0, none⟩), .pointer (some ⟨gI, 0, none⟩)] w fun e w' => e = .returned (.int .i64 (lateV (ks.drop i) a b)) ∧ Below w.heap.size w w' := by
  obtain ⟨x, hx0⟩ : ∃ x, ks[i]? = some x := ⟨_, List.getElem?_eq_getElem hi⟩
  obtain ⟨b2, o2, hae, _, hl2, hx2⟩ := strs_at hx.rk hx0
  subst hae
  have c1 : w.cell? ⟨gK, 0, none⟩ = some (.slice (some ⟨b2, o2, none⟩) ks.length kcap) := blk_cell hx.hK 0
  have c2 : w.cell? ⟨gI, 0, none⟩ = some (.int .i64 i) := blk_cell hx.hI 0
  have hdl : (ks.drop i).length = ks.length - i := List.length_drop
  have hdr : ∀ W, Below w.heap.size w W → RecR TS W 0 (.slice (some ⟨b2, o2 + i, none⟩) (ks.length - i) (kcap - i)) (ks.drop i) := fun W hW => strs_drop (hx.rk.below hW) (by omega)
  have HA := Lib.hid (fun W (hW : Below w.heap.size w W) y => ragain_any (ks.drop i) y _ W (by omega) (hdr W hW))
  have HOR := Lib.hid (OrInt_any [cmpI (agR (ks.drop i) b) (agR (ks.drop i) a), Lib.compareBytes a.data.toList b.data.toList] (.slice (some ⟨w.heap.size, 0, none⟩) 2 2) (w.alloc (.cells #[.int .i64 (cmpI (agR (ks.drop i) b) (agR (ks.drop i) a)), .int .i64 (Lib.compareBytes a.data.toList b.data.toList)] 3)).drew (by simp)
          (Ints.of_blk (show (w.alloc (.cells #[.int .i64 (cmpI (agR (ks.drop i) b) (agR (ks.drop i) a)), .int .i64 (Lib.compareBytes a.data.toList b.data.toList)] 3)).drew.heap[w.heap.size]? = _ from blk_new w _) rfl rfl (Nat.le_refl _) (by simp) (Nat.zero_le _)))
  have HBd := Lib.hid (Below.drew (Below.refl w.heap.size w))
  have hkc : i ≤ kcap := by obtain ⟨_, _, hv, h1, _⟩ := hx.rk; injection hv with _ _ e; omega
  have j1 : (0 : Int) ≤ (i : Int) := by omega
  have j2 : (i : Int) ≤ (ks.length : Int) := by omega
  have hkn : ks.length ≤ kcap := by obtain ⟨_, _, hv, h1, _⟩ := hx.rk; injection hv with _ _ e; omega
  have j3 : (i : Int) ≤ (kcap : Int) := by omega
  have j4 : ¬ i = kcap := by omega
  have j5 : ¬ kcap = i := by omega
  have j6 : ¬ kcap - i = 0 := by omega
  have j7 : ¬ kcap ≤ i := by omega
  clear hx hx0 hx2 hdr hdl
  go_enter Tryz.func129, Tryz.ntmps129
  go_wp2
  go_region_held2 (fun W : World => W.cell? ⟨gK, 0, none⟩ = some (.slice (some ⟨b2, o2, none⟩) ks.length kcap) ∧ W.cell? ⟨gI, 0, none⟩ = some (.int .i64 i))
    (go_keep)
    (first
      | (go_at_call 130; refine (HA.out _ HBd.out _).mono ?_; rintro e w' ⟨rfl, rfl⟩)
      | (go_at_call 103; refine (cmpInt_any _ _ _).mono ?_; rintro e w' ⟨rfl, rfl⟩)
      | (go_at_call 104; refine (Tryz.strings_Compare _ _ _).mono ?_; rintro e w' ⟨rfl, rfl⟩)
      | (go_at_call 102; refine HOR.out.mono ?_; rintro e w' ⟨rfl, rfl⟩))
  all_goals (
    go_wp2
    go_ret
    exact ⟨rfl, Below.drew (Bl.alloc (Below.refl _ _) _)⟩)
set_option maxHeartbeats 2000000 in
theorem MinS_any (gK gI : Nat) (ka : Option Addr) (kcap : Nat) (ks : List Nm) (i : Nat) (x : Nm) (r : List Nm) (vs : Value) (w : World) (hi : i < ks.length) (hlen : ks.length ≤ 2000) (hr : r.length ≤ 1000) (hx : Hcx w gK gI ka kcap ks i) (rs : RecR TS w 0 vs (x :: r)) :
    Calls Tryz.prog 128 #[vs, .func (.func 129) #[] #[.pointer (some ⟨gK, 0, none⟩), .pointer (some ⟨gI, 0, none⟩)]] w fun e w' => e = .returned (.string (minL (lateC nlt (ks.drop i)) x r)) ∧ Below w.heap.size w w' := by
  obtain ⟨a, cap, rfl, _, _⟩ := rs.form
  obtain ⟨b2, o2, hae, _, hl2, hx2⟩ := strs_at rs (show (x :: r)[0]? = some x from rfl)
  subst hae
  obtain ⟨n, hn⟩ : ∃ n, n = (x :: r).length := ⟨_, rfl⟩
  have hn1 : n ≤ 1001 := by rw [hn, List.length_cons]; omega
  have hn2 : 1 ≤ n := by rw [hn, List.length_cons]; omega
  rw [← hn] at rs ⊢
  rw [Nat.add_zero] at hx2
  have HN := Lib.hid hn
  have HX := Lib.hid hx
  have HR := Lib.hid rs
  have hlt1 : ¬ (n : Int) < 1 := by omega
  clear hn hx rs
  go_enter Tryz.func128, Tryz.ntmps128
  go_wp2_with fail
  go_loopw [5, 6] (fun mv iv wr => ∃ (k : Nat) (m : Nm), 1 ≤ k ∧ k ≤ n ∧ iv = .int .i64 k ∧ mv = .string m ∧ Hid (minL (lateC nlt (ks.drop i)) m ((x :: r).drop k) = minL (lateC nlt (ks.drop i)) x r) ∧ Below w.heap.size w wr) (fun _ iv _ => n - (intOf iv).toNat)
  case atStart => exact ⟨1, x, Nat.le_refl _, hn2, rfl, rfl, Lib.hid rfl, Below.refl _ _⟩
  case round =>
    obtain ⟨k, m, hk1, hk, rfl, rfl, HM, hb⟩ := hrel
    by_cases hlt : k < n
    · obtain ⟨y, hy⟩ : ∃ y, (x :: r)[k]? = some y := ⟨_, List.getElem?_eq_getElem (by rw [← HN.out]; exact hlt)⟩
      have HD := Lib.hid (dropAt hy)
      obtain ⟨b3, o3, hae, _, hl3, hx3⟩ := strs_at (HR.out.below hb) hy
      injection hae with hae
      injection hae with e1 e2 _
      subst e1 e2
      have HC := Lib.hid (heldCmp_any gK gI ka kcap ks i y m wr hi hlen (HX.out.below hb))
      obtain ⟨c, hc⟩ : ∃ c, c = lateV (ks.drop i) y m := ⟨_, rfl⟩
      rw [← hc] at HC
      have HCN : Hid (c < 0 ↔ lateC nlt (ks.drop i) y m < 0) := Lib.hid (by rw [hc]; exact lateV_neg _ _ _)
      have hw1 : IntKind.i64.wrap ((k : Int) + 1) = ((k + 1 : Nat) : Int) := by rw [IntWalk.i64_in _ (by omega)]; omega
      clear hy hc
      go_wp2_with fail
      refine HC.out.mono ?_
      rintro e w2 ⟨rfl, hb2⟩
      have hb02 := Bl.trans hb hb2
      have hx4 : w2.cell? ⟨b2, o2 + k, none⟩ = some (.string y) := ((bcell hb2).1 _ _ hl3).trans hx3
      clear hx3 hb2
      by_cases h0 : c < 0
      · have HF : Hid (minL (lateC nlt (ks.drop i)) y ((x :: r).drop (k + 1)) = minL (lateC nlt (ks.drop i)) x r) := Lib.hid (by
          rw [← HM.out, HD.out, minL, if_pos (HCN.out.1 h0)])
        go_wp2
        go_roundw
        case rel => exact ⟨k + 1, y, by omega, by omega, by go_num, rfl, HF, hb02⟩
        case measure => simp [intOf]; omega
      · have HF : Hid (minL (lateC nlt (ks.drop i)) m ((x :: r).drop (k + 1)) = minL (lateC nlt (ks.drop i)) x r) := Lib.hid (by
          rw [← HM.out, HD.out, minL, if_neg (fun h => h0 (HCN.out.2 h))])
        go_wp2
        go_roundw
        case rel => exact ⟨k + 1, m, by omega, by omega, by go_num, rfl, HF, hb02⟩
        case measure => simp [intOf]; omega
    · obtain rfl : k = n := by omega
      have HF : Hid (m = minL (lateC nlt (ks.drop i)) x r) := Lib.hid (by
        have := HM.out
        rw [HN.out, List.drop_length] at this
        exact this)
      go_wp2
      go_ret
      exact ⟨by have h := HF.out; subst h; rfl, hb⟩
theorem eqc_any (v x : Nm) (Bo : Nat) (W : World) (hc : W.cell? ⟨Bo, 0, none⟩ = some (.string v)) :
    Calls Tryz.prog 132 #[.string x, .pointer (some ⟨Bo, 0, none⟩)] W fun e w' => e = .returned (.bool (x.toList == v.toList)) ∧ ∃ q, w' = W.drewN q := by
  go_enter Tryz.func132, Tryz.ntmps132
  go_wp2
  go_ret
  exact ⟨rfl, 0, rfl⟩
/-- a row of the call's own, shorter. -/
theorem OwnS.cut {w : World} {B g n cap : Nat} {l : List Nm} (h : OwnR TS w B (.slice (some ⟨g, 0, none⟩) n cap) l) (hn : n = l.length) {k : Nat} (hk : k ≤ l.length) : OwnR TS w B (.slice (some ⟨g, 0, none⟩) k cap) (l.take k) := by
  subst hn
  unfold OwnR at h ⊢
  rw [flat_str] at h ⊢
  rcases h.2 with ⟨hh, _⟩ | ⟨g', cap', cur, hv, hB, hc, h1, h2, h3, h4⟩
  · cases hh
  · injection hv with ha hnn hcc
    injection ha with ha
    injection ha with hg _ _
    subst hg hcc
    have hl : (l.take k).length = k := by rw [List.length_take]; omega
    refine ⟨by simp [TS], .inr ⟨g, cap, cur, by rw [hl], hB, hc, by omega, h2, h3, ?_⟩⟩
    rw [hl]
    show cur.toList.take (k * 1) = _
    have h5 : cur.toList.take (l.length * 1) = l.map Value.string := h4
    have : cur.toList.take (k * 1) = (cur.toList.take (l.length * 1)).take k := by rw [List.take_take, Nat.mul_one, Nat.mul_one, Nat.min_eq_left hk]
    rw [this, h5, List.map_take]
theorem DelL_any (v : Nm) (l : List Nm) (vl : Value) (Bo C : Nat) (w : World) (h0 : l ≠ []) (hll : l.length ≤ 100000) (hB : w.heap[Bo]? = some (.cells #[.string v] 9 (0, 0))) (hO : OwnR TS w C vl l) (hBne : ∀ g, vl.ownBlock = some g → g ≠ Bo) :
    Calls Tryz.prog 131 #[vl, .func (.func 132) #[] #[.pointer (some ⟨Bo, 0, none⟩)]] w fun e w' => ∃ v', e = .returned v' ∧ OwnR TS w' C v' (l.filter fun x => !(x.toList == v.toList)) ∧ v'.ownBlock = vl.ownBlock ∧ w.grownBy w' vl.ownBlock := by
  obtain ⟨g, cap, cur, rfl, hg, hb, h1, h2, h3, h4⟩ := hO.blk h0
  have hO' : w.ownsRow C 9 1 (.slice (some ⟨g, 0, none⟩) l.length cap) l.length (l.map Value.string) := by
    have := hO
    unfold OwnR at this
    rw [flat_str] at this
    exact this
  have hH := (holds_own Value.string hO' rfl).1
  have hgB : g ≠ Bo := hBne g rfl
  have hgive : ∀ W x, W.heap[Bo]? = w.heap[Bo]? → FnGives Tryz.prog 132 #[.pointer (some ⟨Bo, 0, none⟩)] #[.string x] (.bool (x.toList == v.toList)) W := fun W x hW =>
    eqc_any v x Bo W (blk_cell (hW.trans hB) 0)
  have hBl := blk_lt hB
  have hgrow : ∀ n os dk, (sortWorld Value.string w g 0 n dk os).heap[Bo]? = w.heap[Bo]? := fun n os dk => (grownBy_resorted Value.string dk).block Bo hBl (fun e => hgB (by injection e with e; exact e.symm))
  have := Tryz.slices_DeleteFunc Value.string (fun _ => rfl) (fun x => x.toList == v.toList) 132 #[.pointer (some ⟨Bo, 0, none⟩)] (enters_of Tryz.func132 (by kernel_rfl) rfl) ByteArray.empty Tryz.zeroValue9 g 0 cap l.toArray w
    (fun W x hW => hgive W x (hW.block Bo hBl)) (fun n os dk x _ => hgive _ x (hgrow n os dk)) hH (by simp; omega) (by simpa using h1)
  refine this.mono ?_
  rintro e w' ⟨rfl, q, rfl⟩
  have hfl : (l.filter fun x => !(x.toList == v.toList)).length ≤ l.length := List.length_filter_le _ _
  have hm : ((l.filter fun x => !(x.toList == v.toList)) ++ List.replicate (l.length - (l.filter fun x => !(x.toList == v.toList)).length) ByteArray.empty).length = l.length := by
    rw [List.length_append, List.length_replicate]; omega
  have hown := own_resorted (q := q) (os := #[]) Value.string hO' rfl (m := (l.filter fun x => !(x.toList == v.toList)) ++ List.replicate (l.length - (l.filter fun x => !(x.toList == v.toList)).length) ByteArray.empty) hm
  have hE : ∀ W : World, grow W #[] = W := fun W => by unfold grow; rw [Array.append_empty]
  rw [hE] at hown
  have hgb := grownBy_resorted (w := w) (g := g) (n := q) (os := #[]) Value.string ((l.filter fun x => !(x.toList == v.toList)) ++ List.replicate (l.length - (l.filter fun x => !(x.toList == v.toList)).length) ByteArray.empty).toArray
  rw [hE] at hgb
  refine ⟨_, rfl, ?_, rfl, by show World.grownBy _ _ (some g); simpa using hgb⟩
  have hown2 : OwnR TS (putRow Value.string (Sort.ahead w q) g 0 ((l.filter fun x => !(x.toList == v.toList)) ++ List.replicate (l.length - (l.filter fun x => !(x.toList == v.toList)).length) ByteArray.empty).toArray) C (.slice (some ⟨g, 0, none⟩) l.length cap) ((l.filter fun x => !(x.toList == v.toList)) ++ List.replicate (l.length - (l.filter fun x => !(x.toList == v.toList)).length) ByteArray.empty) := by
    refine own_str ?_
    rw [hm]
    exact hown
  have := OwnS.cut hown2 hm.symm (k := (l.filter fun x => !(x.toList == v.toList)).length) (by rw [hm]; exact hfl)
  rw [List.take_left'] at this
  · simpa using this
  · rfl
end Go.Proofs.YtbkglhakhahfpaaGreatDoor
namespace Go.Proofs.YtbkglhakhahfpaaGreatDoor
open Go.RowKit Go.Sort

/-- rows of names: each in a block of the call's own, none of them r. -/
structure RowsH (B : Nat) (r : Option Nat) (v : Value) (hs : List (List Nm)) (W : World) : Prop where
  ex : ∃ sls, OwnR TL W B v sls ∧ sls.length = hs.length ∧ ∀ (j : Nat) (s : Sl3) (x : List Nm), sls[j]? = some s → hs[j]? = some x → OwnR TS W B (slV s) x ∧ ((slV s).ownBlock = none ∨ (slV s).ownBlock ≠ r)
theorem RowsH.nil (B : Nat) (r : Option Nat) (W : World) : RowsH B r (.slice none 0 0) [] W := ⟨[], OwnR.nil _ _, rfl, fun j s x h => by simp at h⟩
theorem RowsH.below {B : Nat} {r : Option Nat} {v : Value} {hs : List (List Nm)} {W W' : World} (h : RowsH B r v hs W) (hb : Below W.heap.size W W') : RowsH B r v hs W' := by
  obtain ⟨sls, h1, h2, h3⟩ := h.ex
  exact ⟨sls, h1.below hb, h2, fun j s x e1 e2 => ⟨(h3 j s x e1 e2).1.below hb, (h3 j s x e1 e2).2⟩⟩
theorem RowsH.move {B : Nat} {v vh : Value} {held : List Nm} {hs : List (List Nm)} {W W' : World} {r' : Option Nat} (h : RowsH B vh.ownBlock v hs W) (hO : OwnR TS W B vh held) (hg : W.grownBy W' vh.ownBlock) (hr : r' = vh.ownBlock ∨ r' = some W.heap.size) : RowsH B r' v hs W' := by
  obtain ⟨sls, h1, h2, h3⟩ := h.ex
  refine ⟨sls, h1.kept hg (h1.apart TLS hO), h2, fun j s x e1 e2 => ?_⟩
  obtain ⟨a, b⟩ := h3 j s x e1 e2
  refine ⟨a.kept hg b, ?_⟩
  rcases hr with rfl | rfl
  · exact b
  · cases e : (slV s).ownBlock with
    | none => exact .inl rfl
    | some g => exact .inr fun e2 => by injection e2 with e2; have := (a.block e).2.1; omega
theorem RowsH.push {B : Nat} {r : Option Nat} {v v' : Value} {sls : List Sl3} {hs : List (List Nm)} {s : Sl3} {x : List Nm} {W W' : World} (hv : OwnR TL W B v sls) (hl : sls.length = hs.length)
    (h3 : ∀ (j : Nat) (s : Sl3) (x : List Nm), sls[j]? = some s → hs[j]? = some x → OwnR TS W B (slV s) x ∧ ((slV s).ownBlock = none ∨ (slV s).ownBlock ≠ r))
    (hs' : OwnR TS W B (slV s) x) (hne : (slV s).ownBlock = none ∨ (slV s).ownBlock ≠ r) (hg : W.grownBy W' v.ownBlock) (hO : OwnR TL W' B v' (sls ++ [s])) : RowsH B r v' (hs ++ [x]) W' := by
  refine ⟨sls ++ [s], hO, by simp [hl], fun j t y e1 e2 => ?_⟩
  by_cases hj : j < sls.length
  · rw [List.getElem?_append_left hj] at e1
    rw [List.getElem?_append_left (by omega)] at e2
    obtain ⟨a, b⟩ := h3 j t y e1 e2
    exact ⟨a.kept hg (a.apart TSL hv), b⟩
  · rw [List.getElem?_append_right (by omega)] at e1
    rw [List.getElem?_append_right (by omega)] at e2
    have h0 : j - sls.length = 0 := by have := (List.getElem?_eq_some_iff.1 e1).1; simp at this; omega
    rw [h0] at e1
    rw [show j - hs.length = 0 by omega] at e2
    simp at e1 e2
    subst e1 e2
    exact ⟨hs'.kept hg (hs'.apart TSL hv), hne⟩
set_option maxHeartbeats 8000000 in
set_option maxRecDepth 100000 in
theorem HeldOf_any (ks : List Nm) (h : Nat) (vk : Value) (w : World) (h1 : 1 ≤ h) (h8 : h ≤ 8) (hlen : ks.length ≤ 2000) (rk : RecR TS w 0 vk ks) :
    Calls Tryz.prog 35 #[vk, .int .i64 h] w fun e w' => (∃ v, e = .returned v ∧ RowsH w.heap.size none v (heldL h ks ks.length) w') ∧ Below w.heap.size w w' := by
  obtain ⟨ka, kcap, rfl, _, _⟩ := rk.form
  have hmf : ∀ (fn : Fn) (first cap : Array Value) (w : World), (Instr.makeFunc fn first cap).run Tryz.prog w = .ok (.func fn first cap) w := fun _ _ _ _ => rfl
  have hK0 := blk_new w (.cells #[.slice ka ks.length kcap] 59)
  have hb0 := Bl.alloc (Below.refl w.heap.size w) (.cells #[.slice ka ks.length kcap] 59)
  have rk0 := rk.below hb0
  have HE0 : Hid (sortN (atH nlt h ks 0) = []) := Lib.hid (List.eq_nil_of_length_eq_zero (sortN_len []))
  have HH0 : Hid (heldL h ks 0 = []) := Lib.hid rfl
  have hkb : ks ≠ [] → ∀ b, ka = some b → b.block < w.heap.size := fun h0 b e => by
    obtain ⟨x, hx⟩ : ∃ x, ks[0]? = some x := ⟨_, List.getElem?_eq_getElem (List.length_pos_iff.2 h0)⟩
    obtain ⟨b3, o3, hae, _, hlt, _⟩ := strs_at rk hx
    rw [hae] at e
    injection e with e
    rw [← e]; exact hlt
  clear rk
  go_enter Tryz.func35, Tryz.ntmps35
  obtain ⟨w0, hw0⟩ : ∃ w0, w0 = w.alloc (.cells #[.slice ka ks.length kcap] 59) := ⟨_, rfl⟩
  have hz0 : w0.heap.size = w.heap.size + 1 := by rw [hw0]; simp
  rw [← hw0] at hK0 hb0 rk0
  have c0 : w0.cell? ⟨w.heap.size, 0, none⟩ = some (.slice ka ks.length kcap) := blk_cell hK0 0
  go_wp2_with fail
  rw [← hw0]
  have HK := Lib.hid (show ∀ wr, Below (w.heap.size + 1) w0 wr → wr.heap[w.heap.size]? = some (.cells #[.slice ka ks.length kcap] 59 (0, 0)) ∧ RecR TS wr 0 (.slice ka ks.length kcap) ks from fun wr hb => ⟨(hb.block _ (by omega)).trans hK0, rk0.held (fun h0 b hb' => Nat.lt_succ_of_lt (hkb h0 b hb')) hb⟩)
  have HW0 := Lib.hid (And.intro hw0 (And.intro hz0 hb0))
  clear rk0 hkb hK0 hb0 hw0
  go_wp2_with fail
  go_loopw [5, 6, 12] (fun ov hv iv wr => ∃ k : Nat, k ≤ ks.length ∧ iv = .int .i64 k ∧ Hid (OwnR TS wr (w.heap.size + 1) hv (sortN (atH nlt h ks k)) ∧ RowsH (w.heap.size + 1) hv.ownBlock ov (heldL h ks k) wr ∧ Below (w.heap.size + 1) w0 wr ∧ w.heap.size + 1 ≤ wr.heap.size)) (fun _ _ iv _ => ks.length - (intOf iv).toNat)
  case atStart => exact ⟨0, Nat.zero_le _, rfl, Lib.hid ⟨by rw [HE0.out]; exact OwnR.nil _ _, by rw [HH0.out]; exact RowsH.nil _ _ _, Below.refl _ _, by omega⟩⟩
  case round =>
    obtain ⟨k, hk, rfl, HI⟩ := hrel
    by_cases hlt : k < ks.length
    · obtain ⟨x, hx⟩ : ∃ x, ks[k]? = some x := ⟨_, List.getElem?_eq_getElem hlt⟩
      obtain ⟨hKr, rkr⟩ := HK.out wr HI.out.2.2.1
      obtain ⟨b2, o2, hae, _, hl2, hx2⟩ := strs_at rkr hx
      subst hae
      have hld := atH_ok nlt nlt_names h1 ks k
      have HLD := Lib.hid hld
      have HNX := Lib.hid (atH_succ nlt (h := h) hx)
      have HHS := Lib.hid (heldL_succ h ks k)
      have HDR := Lib.hid (dropAt hx)
      have hw1 : IntKind.i64.wrap ((k : Int) + 1) = ((k + 1 : Nat) : Int) := by rw [IntWalk.i64_in _ (by omega)]; omega
      obtain ⟨va, hcap, hvh, _, _⟩ := HI.out.1.form
      obtain ⟨hn, hhn⟩ : ∃ n, n = (sortN (atH nlt h ks k)).length := ⟨_, rfl⟩
      rw [← hhn] at hvh
      subst hvh
      have hnh : hn ≤ h := by rw [hhn, sortN_len]; exact hld.le
      have HHN := Lib.hid hhn
      obtain ⟨oa, on, oc, rfl⟩ : ∃ a n c, u5 = .slice a n c := by
        obtain ⟨sls, hv, _⟩ := HI.out.2.1.ex
        obtain ⟨a, c, e, _, _⟩ := hv.form
        exact ⟨a, _, c, e⟩
      -- the box of the index
      have hA := Bl.alloc (Below.refl wr.heap.size wr) (.cells #[.int .i64 k] 3)
      have HA := Lib.hid hA
      have HHc := Lib.hid (show Hcx (wr.alloc (.cells #[.int .i64 k] 3)) w.heap.size wr.heap.size (some ⟨b2, o2, none⟩) kcap ks k from ⟨blk_old hKr _, blk_new wr _, rkr.below hA⟩)
      have HCO := Lib.hid (ContainsS_any (sortN (atH nlt h ks k)) (.slice va hn hcap) x (wr.alloc (.cells #[.int .i64 k] 3)) (by rw [← hhn]; omega) (HI.out.1.below hA).rec0)
      obtain ⟨w1, hw1e⟩ : ∃ w1, w1 = wr.alloc (.cells #[.int .i64 k] 3) := ⟨_, rfl⟩
      rw [← hw1e] at HA HHc HCO
      have HI1 : Hid (OwnR TS w1 (w.heap.size + 1) (.slice va hn hcap) (sortN (atH nlt h ks k)) ∧ RowsH (w.heap.size + 1) (Value.slice va hn hcap).ownBlock (.slice oa on oc) (heldL h ks k) w1 ∧ Below (w.heap.size + 1) w0 w1 ∧ w.heap.size + 1 ≤ w1.heap.size) := Lib.hid
        ⟨HI.out.1.below HA.out, HI.out.2.1.below HA.out, Below.trans HI.out.2.2.1 (HA.out.mono HI.out.2.2.2), Nat.le_trans HI.out.2.2.2 HA.out.size⟩
      clear hA hx hhn hld hKr rkr
      obtain ⟨cb, hcb⟩ : ∃ cb, cb = Lib.containsS (sortN (atH nlt h ks k)) x := ⟨_, rfl⟩
      rw [← hcb] at HCO
      have HCB : Hid (cb = true ↔ x ∈ atH nlt h ks k) := Lib.hid (by rw [hcb, Lib.containsS_iff, sortN_mem])
      clear hcb
      go_wp2_with fail
      rw [← hw1e]
      refine HCO.out.mono ?_
      rintro e w' ⟨rfl, rfl⟩
      have HW1 := Lib.hid hw1e
      clear hw1e
      go_upto_if 20 with fail
      go_cut [6, 9] from 20 to 36 (fun v6 v9 wx => Hid (OwnR TS wx (w.heap.size + 1) v6 (sortN (atH nlt h ks (k + 1))) ∧ RowsH (w.heap.size + 1) v6.ownBlock (.slice oa on oc) (heldL h ks k) wx ∧ Below (w.heap.size + 1) w0 wx ∧ w.heap.size + 1 ≤ wx.heap.size))
      case first =>
        cases cb
        · have hnx : x ∉ atH nlt h ks k := fun hm => by have := HCB.out.2 hm; cases this
          have HX0 := Lib.hid hnx
          clear hnx
          by_cases hfull : hn = h
          case' pos =>
            have e1 : ((hn : Int) == (h : Int)) = true := by rw [hfull]; simp
            have HFU := Lib.hid hfull
            have hn1 : 1 ≤ hn := by omega
            obtain ⟨x0, r0, hsr⟩ : ∃ x0 r0, sortN (atH nlt h ks k) = x0 :: r0 := by
              cases hs : sortN (atH nlt h ks k) with
              | nil => have := HHN.out; rw [hs] at this; simp at this; omega
              | cons x0 r0 => exact ⟨x0, r0, rfl⟩
            have hrl : r0.length ≤ 1000 := by have := HHN.out; rw [hsr, List.length_cons] at this; omega
            have HMin := Lib.hid (MinS_any w.heap.size wr.heap.size (some ⟨b2, o2, none⟩) kcap ks k x0 r0 (.slice va hn hcap) w1 hlt hlen hrl HHc.out (by rw [← hsr]; exact HI1.out.1.rec0))
            obtain ⟨last, hlast⟩ : ∃ z, z = minL (lateC nlt (ks.drop k)) x0 r0 := ⟨_, rfl⟩
            rw [← hlast] at HMin
            have HLA : Hid (sortN ((sortN (atH nlt h ks k)).filter (fun y => !(y.toList == last.toList)) ++ [x]) = sortN (atH nlt h ks (k + 1))) := Lib.hid (by
              rw [HNX.out]
              refine held_law HLD.out HX0.out (by rw [← sortN_len, ← HHN.out]; exact HFU.out) (ks.drop (k + 1)) hsr (fun y => y.toList == last.toList) fun y => ?_
              rw [← HDR.out, ← hlast]
              constructor
              · intro h; exact bytes_eq (by simpa using h)
              · rintro rfl; simp)
            clear hlast hsr hrl hfull
            go_wp2_with fail
            refine HMin.out.mono ?_
            rintro e w2 ⟨rfl, hb2⟩
            have hB3 := Bl.alloc hb2 (.cells #[.string last] 9)
            have hL3 := blk_new w2 (.cells #[.string last] 9)
            obtain ⟨w3, hw3⟩ : ∃ w3, w3 = w2.alloc (.cells #[.string last] 9) := ⟨_, rfl⟩
            rw [← hw3] at hB3 hL3
            have hO3 := HI1.out.1.below hB3
            have hR3 := HI1.out.2.1.below hB3
            have HDel := Lib.hid (DelL_any last (sortN (atH nlt h ks k)) (.slice va hn hcap) w2.heap.size (w.heap.size + 1) w3 (by intro e; have := HHN.out; rw [e] at this; simp at this; omega) (by rw [← HHN.out]; omega) hL3 hO3 (fun g hg => by have := (World.ownsRow.lt HI1.out.1 g hg).2; have := hb2.size; omega))
            have HR3 := Lib.hid (And.intro hO3 (And.intro hR3 (And.intro (Below.trans HI1.out.2.2.1 (hB3.mono HI1.out.2.2.2)) (Nat.le_trans HI1.out.2.2.2 hB3.size))))
            clear hB3 hL3 hO3 hR3 hb2 HMin
            go_wp2_with fail
            rw [← hw3]
            clear hw3
            refine HDel.out.mono ?_
            rintro e wz ⟨vz, rfl, hOz, hob, hgz⟩
            obtain ⟨s', hs'⟩ : ∃ s', s' = (sortN (atH nlt h ks k)).filter (fun y => !(y.toList == last.toList)) := ⟨_, rfl⟩
            have hsl : s'.length ≤ 1000 := by
              rw [hs']
              have h1 := List.length_filter_le (fun y => !(y.toList == last.toList)) (sortN (atH nlt h ks k))
              rw [← HHN.out] at h1
              omega
            rw [← hs'] at hOz HLA
            obtain ⟨za, zcap, rfl, _, _⟩ := hOz.form
            obtain ⟨zn, hzn⟩ : ∃ n, n = s'.length := ⟨_, rfl⟩
            rw [← hzn] at hOz hob
            have hZ : OwnR TS wz (w.heap.size + 1) (.slice za zn zcap) s' ∧ RowsH (w.heap.size + 1) (Value.slice za zn zcap).ownBlock (.slice oa on oc) (heldL h ks k) wz ∧ Below (w.heap.size + 1) w0 wz ∧ w.heap.size + 1 ≤ wz.heap.size :=
              ⟨hOz, HR3.out.2.1.move HR3.out.1 hgz (.inl hob), Below.trans HR3.out.2.2.1 (app_belowR HR3.out.1 hgz HR3.out.2.2.2), Nat.le_trans HR3.out.2.2.2 hgz.size⟩
            have HZ := Lib.hid hZ
            rw [← hzn]
            clear hZ hOz hob hgz HR3 HDel hs' hzn
          case' neg =>
            obtain ⟨s', hs'⟩ : ∃ s', s' = sortN (atH nlt h ks k) := ⟨_, rfl⟩
            have hsl : s'.length ≤ 1000 := by rw [hs', ← HHN.out]; omega
            have HLA : Hid (sortN (s' ++ [x]) = sortN (atH nlt h ks (k + 1))) := Lib.hid (by
              rw [HNX.out, hs']
              exact held_room HX0.out (by rw [← sortN_len, ← HHN.out]; omega) _)
            have hZ := HI1.out
            rw [← hs'] at hZ
            have HZ := Lib.hid hZ
            have e0 : ((hn : Int) == (h : Int)) = false := by rw [beq_eq_false_iff_ne]; omega
            clear hZ hs'
            obtain ⟨wz, rfl⟩ : ∃ wz, wz = w1 := ⟨_, rfl⟩
          all_goals (
            go_wp2_with (at_builtin; refine wp_app_rec_at TS.ok rfl _ _ rfl (w.heap.size + 1) _ s' rfl (HZ.out.1.alloc _) wz.heap.size 1 x rfl (blk_new wz _) rfl (by omega) (by have := HZ.out.2.2.2; simp; omega) ?_)
            intro v5 w5 hO5 hg5 hb5 hl5
            have hR5 := (HZ.out.2.1.below (Bl.alloc (Below.refl wz.heap.size wz) (.cells #[.string x] 9))).move (HZ.out.1.alloc (.cells #[.string x] 9)) hg5 (hl5.imp id fun h => h.trans (by simp))
            have HS5 := Lib.hid (SortS_any (s' ++ [x]) v5 w5 (by simp; omega) hO5)
            have HQ5 := Lib.hid (And.intro hO5 (And.intro hR5 (And.intro (Below.trans (Bl.alloc (Below.refl wz.heap.size wz) (.cells #[.string x] 9) |>.mono HZ.out.2.2.2) hb5) hb5.size)))
            clear hO5 hg5 hb5 hl5 hR5
            go_wp2_with fail
            refine HS5.out.mono ?_
            rintro e w6 ⟨rfl, hO6, hg6⟩
            have HF : Hid (OwnR TS w6 (w.heap.size + 1) v5 (sortN (atH nlt h ks (k + 1))) ∧ RowsH (w.heap.size + 1) v5.ownBlock (.slice oa on oc) (heldL h ks k) w6 ∧ Below (w.heap.size + 1) w0 w6 ∧ w.heap.size + 1 ≤ w6.heap.size) := Lib.hid
              ⟨by rw [← HLA.out]; exact hO6, HQ5.out.2.1.move HQ5.out.1 hg6 (.inl rfl), Below.trans HZ.out.2.2.1 (Below.trans HQ5.out.2.2.1 (app_belowR HQ5.out.1 hg6 (by have := HQ5.out.2.2.2; have := HZ.out.2.2.2; simp at *; omega))), by have := HQ5.out.2.2.2; have := HZ.out.2.2.2; have := hg6.size; simp at *; omega⟩
            clear hO6 hg6
            go_wp2
            go_meet
            case rel => exact HF)
        · have HN : Hid (atH nlt h ks (k + 1) = atH nlt h ks k) := Lib.hid (by rw [HNX.out]; unfold stepH; rw [if_pos (HCB.out.1 rfl)])
          have HF : Hid (OwnR TS w1 (w.heap.size + 1) (.slice va hn hcap) (sortN (atH nlt h ks (k + 1))) ∧ RowsH (w.heap.size + 1) (Value.slice va hn hcap).ownBlock (.slice oa on oc) (heldL h ks k) w1 ∧ Below (w.heap.size + 1) w0 w1 ∧ w.heap.size + 1 ≤ w1.heap.size) := Lib.hid (by rw [HN.out]; exact HI1.out)
          go_wp2
          go_meet
          case rel => exact HF
      case rest =>
        have HQ := hcut
        clear hcut
        obtain ⟨sls, hv, hsl, hrows⟩ := HQ.out.2.1.ex
        obtain ⟨a6, c6, h6, _, _⟩ := HQ.out.1.form
        obtain ⟨n6, hn6⟩ : ∃ n, n = (sortN (atH nlt h ks (k + 1))).length := ⟨_, rfl⟩
        rw [← hn6] at h6
        subst h6
        have h6l : n6 ≤ 1000 := by rw [hn6, sortN_len]; have := (atH_ok nlt nlt_names h1 ks (k + 1)).le; omega
        have HCL := Lib.hid (CloneStr_any (l := sortN (atH nlt h ks (k + 1))) (.slice a6 n6 c6) wc (by rw [← hn6]; omega) HQ.out.1.rec0)
        have HR := Lib.hid (And.intro hv (And.intro hsl hrows))
        have hsl2 : sls.length ≤ 1000000 := by rw [hsl, heldL_len]; omega
        clear hv hsl hrows hn6
        go_wp2_with fail
        refine HCL.out.mono ?_
        rintro e w7 ⟨vc, rfl, hO7, hb7⟩
        obtain ⟨a7, c7, h7, _, _⟩ := hO7.form
        obtain ⟨n7, hn7⟩ : ∃ n, n = (sortN (atH nlt h ks (k + 1))).length := ⟨_, rfl⟩
        rw [← hn7] at h7
        subst h7
        clear hn7
        have hA8 := Bl.alloc hb7 (.cells #[.slice a7 n7 c7] 59)
        have HS8 := Lib.hid (And.intro (hO7.alloc (.cells #[.slice a7 n7 c7] 59)) (And.intro hA8 (And.intro (HR.out.1.below hA8) (HQ.out.1.below hA8))))
        have hz7 := hA8.size
        clear hO7 hb7 hA8
        go_wp2_with (at_builtin; refine wp_app_rec TL.ok rfl _ _ rfl (w.heap.size + 1) _ sls rfl HS8.out.2.2.1 w7.heap.size 1 (a7, n7, c7) rfl (blk_new w7 _) rfl hsl2 (by have := HQ.out.2.2.2; omega) ?_)
        intro v8 w8 hO8 hg8 hb8
        have hz8 : w.heap.size + 1 ≤ (w7.alloc (.cells #[.slice a7 n7 c7] 59)).heap.size := by have := HQ.out.2.2.2; omega
        have hP := RowsH.push (r := (Value.slice a6 n6 c6).ownBlock) (x := sortN (atH nlt h ks (k + 1))) HS8.out.2.2.1 HR.out.2.1 (fun j s x e1 e2 => ⟨(HR.out.2.2 j s x e1 e2).1.below HS8.out.2.1, (HR.out.2.2 j s x e1 e2).2⟩) (s := (a7, n7, c7)) (HS8.out.1.base (by have := HQ.out.2.2.2; omega)) (by
          cases e : (slV (a7, n7, c7)).ownBlock with
          | none => exact .inl rfl
          | some g =>
            refine .inr fun e2 => ?_
            have h1 := (World.ownsRow.lt HS8.out.1 g e).1
            have h2 := (World.ownsRow.lt HQ.out.1 g e2.symm).2
            omega) hg8 hO8
        have HF : Hid (OwnR TS w8 (w.heap.size + 1) (.slice a6 n6 c6) (sortN (atH nlt h ks (k + 1))) ∧ RowsH (w.heap.size + 1) (Value.slice a6 n6 c6).ownBlock v8 (heldL h ks (k + 1)) w8 ∧ Below (w.heap.size + 1) w0 w8 ∧ w.heap.size + 1 ≤ w8.heap.size) := Lib.hid
          ⟨HS8.out.2.2.2.kept hg8 (HS8.out.2.2.2.apart TSL HS8.out.2.2.1), by rw [HHS.out]; exact hP, Below.trans HQ.out.2.2.1 (Below.trans (HS8.out.2.1.mono HQ.out.2.2.2) hb8), Nat.le_trans hz8 hb8.size⟩
        clear hP hO8 hg8 hb8
        go_wp2
        go_roundw
        case rel => exact ⟨k + 1, by omega, by go_num, HF⟩
        case measure => simp [intOf]; omega
    · obtain rfl : k = ks.length := by omega
      obtain ⟨oa, on, oc, rfl⟩ : ∃ a n c, u5 = .slice a n c := by
        obtain ⟨sls, hv, _⟩ := HI.out.2.1.ex
        obtain ⟨a, c, e, _, _⟩ := hv.form
        exact ⟨a, _, c, e⟩
      go_wp2
      go_ret
      obtain ⟨sls, hv, hsl, hrows⟩ := HI.out.2.1.ex
      exact ⟨⟨_, rfl, ⟨sls, hv.base (Nat.le_succ _), hsl, fun j s x e1 e2 => ⟨(hrows j s x e1 e2).1.base (Nat.le_succ _), by
        cases e : (slV s).ownBlock with
        | none => exact .inl rfl
        | some g => exact .inr (by simp)⟩⟩⟩, Bl.trans HW0.out.2.2 (by have h9 := HI.out.2.2.1; rw [← HW0.out.2.1] at h9; exact h9)⟩
end Go.Proofs.YtbkglhakhahfpaaGreatDoor
