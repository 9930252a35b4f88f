/- Texts of the proof of a law, put together, part 24 of 41. Conditions: none beyond those that each theorem names. -/
import Derived.Test.YtihgnpobkpnipaaGreatDoorQz19
import Derived.Test.YtihgnpobkpnipaaGreatDoorQz20
import Derived.Test.YtihgnpobkpnipaaGreatDoorQz23
namespace Go.Proofs.YtihgnpobkpnipaaGreatDoor
open Go.RowKit Go.Sort
theorem catsF_nil : catsF [] [] = 0 := rfl
theorem PrtS.z {ps : List Prt} (h : ∀ x ∈ ps, PrtS x) : PrtZ ps := fun x hx => ⟨Nat.le_trans (h x hx).1 (by decide), Nat.le_trans (h x hx).2.1 (by decide)⟩
theorem AltS.z {l : List Alt} (h : ∀ x ∈ l, AltS x) : AltZ l := fun x hx => ⟨Nat.le_trans (h x hx).1 (by decide), Nat.le_trans (h x hx).2 (by decide)⟩
/-- what the two stores of the result leave as it was. -/
theorem RightCat_keep (w : World) (g s : Nat) (c : Int) (ps : List Prt) (vp va : Value) (l : List Alt) (hx : w.heap[g]? = some (.cells #[.slice none 0 0, .slice none 0 0] 29 (0, 0))) (ls : s < g) (hp : OwnR TPt w g vp ps) (ha : OwnR TAl w g va l) (hs : Str w s c) :
    OwnR TPt ((w.setCell ⟨g, 0, none⟩ vp).setCell ⟨g, 1, none⟩ va) g vp ps ∧ OwnR TAl ((w.setCell ⟨g, 0, none⟩ vp).setCell ⟨g, 1, none⟩ va) g va l ∧ Str ((w.setCell ⟨g, 0, none⟩ vp).setCell ⟨g, 1, none⟩ va) s c := by
  have e : ∀ k : Nat, k ≠ g → ((w.setCell ⟨g, 0, none⟩ vp).setCell ⟨g, 1, none⟩ va).heap[k]? = w.heap[k]? := fun k hk =>
    (Below.heap_setCell _ ⟨g, 1, none⟩ _ k hk).trans (Below.heap_setCell _ ⟨g, 0, none⟩ _ k hk)
  refine ⟨(ownR_k TPt g).keep hp fun k hk => e k fun e2 => ?_, (ownR_k TAl g).keep ha fun k hk => e k fun e2 => ?_, (hs.far g 0 (by omega) vp).far g 1 (by omega) va⟩
  · subst e2
    obtain ⟨_, c1, h1⟩ := (ownR_k TPt k).blk hp hk
    rw [hx] at h1
    injection h1 with h1
    injection h1 with _ e3 _
    exact absurd e3 (by decide)
  · subst e2
    obtain ⟨_, c1, h1⟩ := (ownR_k TAl k).blk ha hk
    rw [hx] at h1
    injection h1 with h1
    injection h1 with _ e3 _
    exact absurd e3 (by decide)
end Go.Proofs.YtihgnpobkpnipaaGreatDoor
namespace Go.Proofs.YtihgnpobkpnipaaGreatDoor
open Go.RowKit Go.Sort
theorem nmC_small (k : Nat) : (nmC k).size ≤ 5 := by
  unfold nmC
  by_cases h : k < 5
  · have hk' : k = 0 ∨ k = 1 ∨ k = 2 ∨ k = 3 ∨ k = 4 := by omega
    rcases hk' with rfl | rfl | rfl | rfl | rfl <;> decide
  · rw [List.getElem?_eq_none (by simp; omega)]; decide
theorem smX_small {li : List Int} {m : Nat} {l : List ByteArray} (h0 : 0 < l.length) (h : ∀ x ∈ l, x.size ≤ 5) : (smX li m l).size ≤ 5 := h _ (smX_mem h0)
theorem pkX_rng {li : List Int} {m : Nat} {l : List Int} (h0 : 0 < l.length) (h : ∀ x ∈ l, -1099511627777 ≤ x ∧ x ≤ 1099511627777) : -1099511627777 ≤ pkX li m l ∧ pkX li m l ≤ 1099511627777 := h _ (pkX_mem h0)
theorem partX_ok (li : List Int) (m k : Nat) : PrtS (partX li m (nmC k)) := by
  have h1 := pkX_rng (li := li) (m := m + 1) (l := [1, 2, 3, 4, 5, 6]) (by decide) (by decide)
  have h2 := pkX_rng (li := li) (m := m + 2) (l := [0, 28800000, 172800000]) (by decide) (by decide)
  exact ⟨nmC_small k, smX_small (by decide) (by decide), h1.1, h1.2, h2.1, h2.2⟩
theorem partsX_ok (li : List Int) (m : Nat) : ∀ k, ∀ x ∈ partsX li m k, PrtS x
  | 0, x, h => absurd h List.not_mem_nil
  | k + 1, x, h => by
    rw [partsX] at h
    rcases List.mem_append.1 h with h | h
    · exact partsX_ok li m k x h
    · rw [List.mem_singleton.1 h]; exact partX_ok _ _ _
theorem altX_ok (li : List Int) (k2 k3 : Nat) (st : List Alt × Nat) : (altX li k2 k3 st).1.length ≤ st.1.length + 1 ∧ (altX li k2 k3 st).2 ≤ st.2 + 2 ∧ ((∀ x ∈ st.1, AltS x) → ∀ x ∈ (altX li k2 k3 st).1, AltS x) := by
  unfold altX
  split
  · exact ⟨by omega, by omega, fun h => h⟩
  split
  · split
    · exact ⟨by simp, by simp, fun h => h⟩
    · refine ⟨by simp, by simp, fun h x hx => ?_⟩
      rcases List.mem_append.1 hx with q | q
      · exact h x q
      · rw [List.mem_singleton.1 q]; exact ⟨nmC_small _, nmC_small _⟩
  · exact ⟨by simp, by simp, fun h => h⟩
theorem rowX_ok (li : List Int) (k2 : Nat) (st : List Alt × Nat) : ∀ k, (rowX li k2 st k).1.length ≤ st.1.length + k ∧ (rowX li k2 st k).2 ≤ st.2 + 2 * k ∧ ((∀ x ∈ st.1, AltS x) → ∀ x ∈ (rowX li k2 st k).1, AltS x)
  | 0 => ⟨Nat.le_refl _, Nat.le_refl _, fun h => h⟩
  | k + 1 => by
    obtain ⟨a, b, c⟩ := rowX_ok li k2 st k
    obtain ⟨d, e, f⟩ := altX_ok li k2 k (rowX li k2 st k)
    rw [rowX]
    exact ⟨by omega, by omega, fun h => f (c h)⟩
theorem altsX_ok (li : List Int) (n : Nat) (hn : n ≤ 5) (st : List Alt × Nat) : ∀ k, (altsX li n st k).1.length ≤ st.1.length + 5 * k ∧ (altsX li n st k).2 ≤ st.2 + 10 * k ∧ ((∀ x ∈ st.1, AltS x) → ∀ x ∈ (altsX li n st k).1, AltS x)
  | 0 => ⟨Nat.le_refl _, Nat.le_refl _, fun h => h⟩
  | k + 1 => by
    obtain ⟨a, b, c⟩ := altsX_ok li n hn st k
    obtain ⟨d, e, f⟩ := rowX_ok li k (altsX li n st k) n
    rw [altsX]
    exact ⟨by omega, by omega, fun h => f (c h)⟩
theorem spP_ok (li : List Int) (m : Nat) {ps : List Prt} (h : ∀ x ∈ ps, PrtS x) : (spP li m ps).1.length = ps.length ∧ (spP li m ps).2 ≤ m + 4 ∧ ∀ x ∈ (spP li m ps).1, PrtS x := by
  cases hx : ps[(nxX li m ps.length).toNat]? with
  | none =>
    have e : spP li m ps = (ps, m) := by unfold spP; rw [hx]
    rw [e]
    exact ⟨rfl, by simp, h⟩
  | some x =>
    rw [spP_at rfl hx]
    obtain ⟨a, b, c, d, f, g⟩ := h x (List.mem_of_getElem? hx)
    refine ⟨List.length_set, by simp, fun y hy => ?_⟩
    rcases List.mem_or_eq_of_mem_set hy with q | rfl
    · exact h y q
    · have h1 := pkX_rng (li := li) (m := m + 1 + 1) (l := [x.2.2.1, 0, 7]) (by simp) (by
        intro z hz
        simp only [List.mem_cons, List.not_mem_nil, or_false] at hz
        rcases hz with rfl | rfl | rfl <;> omega)
      have h2 := pkX_rng (li := li) (m := m + 1 + 2) (l := [x.2.2.2, -1, 720000001]) (by simp) (by
        intro z hz
        simp only [List.mem_cons, List.not_mem_nil, or_false] at hz
        rcases hz with rfl | rfl | rfl <;> omega)
      refine ⟨smX_small (by simp) ?_, b, h1.1, h1.2, h2.1, h2.2⟩
      intro z hz
      simp only [List.mem_cons, List.not_mem_nil, or_false] at hz
      rcases hz with rfl | rfl | rfl
      · exact a
      · decide
      · decide
theorem spA_ok (li : List Int) (m : Nat) {l : List Alt} (h : ∀ x ∈ l, AltS x) : (spA li m l).1.length = l.length ∧ (spA li m l).2 ≤ m + 4 ∧ ∀ x ∈ (spA li m l).1, AltS x := by
  cases hx : l[(nxX li m l.length).toNat]? with
  | none =>
    have e : spA li m l = (l, m) := by unfold spA; rw [hx]
    rw [e]
    exact ⟨rfl, by simp, h⟩
  | some x =>
    rw [spA_at rfl hx]
    obtain ⟨a, b⟩ := h x (List.mem_of_getElem? hx)
    refine ⟨List.length_set, by simp, fun y hy => ?_⟩
    rcases List.mem_or_eq_of_mem_set hy with q | rfl
    · exact h y q
    · refine ⟨smX_small (by simp) ?_, smX_small (by simp) ?_⟩
      all_goals (
        intro z hz
        simp only [List.mem_cons, List.not_mem_nil, or_false] at hz
        rcases hz with rfl | rfl | rfl
        all_goals (first | assumption | decide))
theorem spoilX_ok (li : List Int) (m : Nat) {ps : List Prt} {l : List Alt} (h : ∀ x ∈ ps, PrtS x) (h2 : ∀ x ∈ l, AltS x) : (spoilX li m ps l).1.length = ps.length ∧ (spoilX li m ps l).2.1.length = l.length ∧ (spoilX li m ps l).2.2 ≤ m + 5 ∧ (∀ x ∈ (spoilX li m ps l).1, PrtS x) ∧ ∀ x ∈ (spoilX li m ps l).2.1, AltS x := by
  obtain ⟨a1, a2, a3⟩ := spP_ok li m h
  obtain ⟨b1, b2, b3⟩ := spP_ok li (m + 1) h
  obtain ⟨c1, c2, c3⟩ := spA_ok li (m + 1) h2
  unfold spoilX
  split
  · exact ⟨a1, rfl, by show (spP li m ps).2 ≤ _; omega, a3, h2⟩
  split
  · exact ⟨rfl, c1, by show (spA li (m + 1) l).2 ≤ _; omega, h, c3⟩
  · exact ⟨b1, rfl, by show (spP li (m + 1) ps).2 ≤ _; omega, b3, h2⟩
theorem catX_ok (li : List Int) (m : Nat) : (catX li m).1.length ≤ 5 ∧ (catX li m).2.1.length ≤ 25 ∧ (∀ x ∈ (catX li m).1, PrtS x) ∧ (∀ x ∈ (catX li m).2.1, AltS x) ∧ (catX li m).2.2 ≤ m + 100 := by
  obtain ⟨n, hn⟩ : ∃ n, n = (nxX li m 6).toNat := ⟨_, rfl⟩
  obtain ⟨h1, h2⟩ := nxX_rng li m 6
  have hn5 : n ≤ 5 := by omega
  have hp := partsX_ok li (m + 1) n
  have hl := partsX_len li (m + 1) n
  obtain ⟨a, b, c⟩ := altsX_ok li n hn5 ([], m + 1 + 3 * n) n
  obtain ⟨st, hst⟩ : ∃ q, q = altsX li n ([], m + 1 + 3 * n) n := ⟨_, rfl⟩
  rw [← hst] at a b c
  obtain ⟨l, M⟩ := st
  have c' := c (by simp)
  replace a : l.length ≤ 0 + 5 * n := a
  replace b : M ≤ m + 1 + 3 * n + 10 * n := b
  cases hf : flX li M 10 with
  | false =>
    rw [catX_no hn hst.symm hf]
    exact ⟨by show (partsX li (m + 1) n).length ≤ 5; omega, by show l.length ≤ 25; omega, hp, c', by show M + 1 ≤ _; omega⟩
  | true =>
    rw [catX_sp hn hst.symm hf]
    obtain ⟨d1, d2, d3, d4, d5⟩ := spoilX_ok (l := l) li (M + 1) hp c'
    exact ⟨by rw [d1]; omega, by rw [d2]; omega, d4, d5, by omega⟩
def rightX (li : List Int) : Nat → Nat → List Prt × List Alt
  | 0, _ => ([], [])
  | k + 1, m => if catsF (catX li m).1 (catX li m).2.1 = 0 then ((catX li m).1, (catX li m).2.1) else rightX li k (catX li m).2.2
theorem rightX_ok (li : List Int) : ∀ k m, catsF (rightX li k m).1 (rightX li k m).2 = 0 ∧ (rightX li k m).1.length ≤ 5 ∧ (rightX li k m).2.length ≤ 25
  | 0, _ => ⟨catsF_nil, by show ([] : List Prt).length ≤ 5; decide, by show ([] : List Alt).length ≤ 25; decide⟩
  | k + 1, m => by
    rw [rightX]
    obtain ⟨a, b, _⟩ := catX_ok li m
    split
    · rename_i h
      exact ⟨h, a, b⟩
    · exact rightX_ok li k _
set_option maxHeartbeats 4000000 in
set_option maxRecDepth 100000 in
theorem RightCatalogue_x (s m : Nat) (li : List Int) (w : World) (h : StrX w s li m) (hc : m ≤ 700000) :
    Calls Tryz.prog 17 #[.pointer (some ⟨s, 0, none⟩)] w fun e w' => (∃ vp va, e = .returned (.agg #[vp, va]) ∧ OwnR TPt w' w.heap.size vp (rightX li 8 m).1 ∧ OwnR TAl w' w.heap.size va (rightX li 8 m).2) ∧ w.grownBy w' (some s) := by
  have ls := h.lt
  obtain ⟨w1, hw1⟩ : ∃ w1, w1 = w.alloc (.cells #[.slice none 0 0, .slice none 0 0] 29) := ⟨_, rfl⟩
  have hb1 : Below w.heap.size w w1 := by rw [hw1]; exact Bl.alloc (Below.refl _ _) _
  have HS1 := Lib.hid (h.below hb1)
  have HG1 := Lib.hid (Gr.of_below hb1 (some s))
  have HX1 := Lib.hid (show w1.heap[w.heap.size]? = some (.cells #[.slice none 0 0, .slice none 0 0] 29 (0, 0)) by rw [hw1]; exact blk_new w _)
  have HW1 := Lib.hid hw1
  clear h hb1 hw1
  go_enter Tryz.func17, Tryz.ntmps17
  go_wp2_with fail
  rw [← HW1.out]
  go_loopw [4] (fun i wr => ∃ k M : Nat, k ≤ 8 ∧ i = .int .i64 k ∧ Hid (StrX wr s li M ∧ M ≤ m + 100 * k) ∧ Hid (rightX li 8 m = rightX li (8 - k) M) ∧ Hid (w.grownBy wr (some s)) ∧ Hid (wr.heap[w.heap.size]? = some (.cells #[.slice none 0 0, .slice none 0 0] 29 (0, 0)))) (fun i _ => 8 - (intOf i).toNat)
  case atStart => exact ⟨0, m, by omega, rfl, Lib.hid ⟨HS1.out, by omega⟩, Lib.hid rfl, HG1, HX1⟩
  case round =>
    obtain ⟨k, M, hk, rfl, HS, HE, HG, HX⟩ := hrel
    by_cases hlt : k < 8
    · have hwk : IntKind.i64.wrap ((k : Int) + 1) = ((k + 1 : Nat) : Int) := by rw [IntWalk.i64_in _ (by omega)]; omega
      go_wp2_with fail
      refine (CatalogueOf_x s M li wr HS.out.1 (by have := HS.out.2; omega)).mono ?_
      rintro e w2 ⟨⟨vp, va, rfl, hOp, hOa⟩, hS2, hG2⟩
      obtain ⟨hlp, hla, hkp, hka, hmm⟩ := catX_ok li M
      obtain ⟨cx, hcx⟩ : ∃ q, q = catX li M := ⟨_, rfl⟩
      rw [← hcx] at hOp hOa hlp hla hkp hka hmm hS2
      obtain ⟨ps, l, M2⟩ := cx
      replace hOp : OwnR TPt w2 wr.heap.size vp ps := hOp
      replace hOa : OwnR TAl w2 wr.heap.size va l := hOa
      replace hlp : ps.length ≤ 5 := hlp
      replace hla : l.length ≤ 25 := hla
      replace hkp : ∀ x ∈ ps, PrtS x := hkp
      replace hka : ∀ x ∈ l, AltS x := hka
      replace hmm : M2 ≤ M + 100 := hmm
      replace hS2 : StrX w2 s li M2 := hS2
      have HCX : Hid (rightX li (8 - k) M = if catsF ps l = 0 then (ps, l) else rightX li (8 - (k + 1)) M2) := Lib.hid (by rw [show 8 - k = (8 - (k + 1)) + 1 by omega, rightX, ← hcx])
      have HM2 : Hid (M2 ≤ m + 100 * (k + 1)) := Lib.hid (by have := HS.out.2; omega)
      clear hcx hmm
      obtain ⟨pa, pn, pcap, rfl⟩ : ∃ a n c, vp = .slice a n c := by obtain ⟨a, c, h, _, _⟩ := hOp.form; exact ⟨a, _, c, h⟩
      obtain ⟨aa, an, acap, rfl⟩ : ∃ a n c, va = .slice a n c := by obtain ⟨a, c, h, _, _⟩ := hOa.form; exact ⟨a, _, c, h⟩
      obtain ⟨r3, hr3⟩ : ∃ r3, r3 = w2.heap.size := ⟨_, rfl⟩
      obtain ⟨w3, hw3⟩ : ∃ w3, w3 = w2.alloc (.cells #[.slice pa pn pcap, .slice aa an acap] 29) := ⟨_, rfl⟩
      have hb3 : Below w2.heap.size w2 w3 := by rw [hw3]; exact Bl.alloc (Below.refl _ _) _
      have hx3 : w3.heap[r3]? = some (.cells #[.slice pa pn pcap, .slice aa an acap] 29 (0, 0)) := by rw [hw3, hr3]; exact blk_new w2 _
      have HX3 := Lib.hid (blk_below (Gr.blk hG2 HX.out (by omega)) hb3)
      have HG3 := Lib.hid (Gr.trans (Gr.trans HG.out hG2) (Gr.of_below hb3 _))
      have hz0 := HG.out.size
      have HOp := Lib.hid ((OwnR.base hOp hz0).below hb3)
      have HOa := Lib.hid ((OwnR.base hOa hz0).below hb3)
      have HS3 := Lib.hid (hS2.below hb3)
      have HCR : CatR w3 (.slice pa pn pcap) (.slice aa an acap) ps l := ⟨(hOp.below hb3).rec0, (hOa.below hb3).rec0⟩
      have HSF := Lib.hid (CatalogueFault_any ps l _ _ w3 (by omega) (by omega) (PrtS.z hkp) (AltS.z hka) HCR)
      obtain ⟨F, hF⟩ : ∃ F, F = catsF ps l := ⟨_, rfl⟩
      rw [← hF] at HSF
      have HF := Lib.hid hF
      have HR3 := Lib.hid (And.intro hr3 hw3)
      have c3 : w3.cell? ⟨r3, 0, none⟩ = some (.slice pa pn pcap) := blk_cell hx3 0
      have c4 : w3.cell? ⟨r3, 1, none⟩ = some (.slice aa an acap) := blk_cell hx3 1
      have HX3' := Lib.hid hx3
      have lr3 := blk_lt hx3
      have hzw : w.heap.size < r3 := by
        have := blk_lt (Gr.blk hG2 HX.out (by omega))
        omega
      clear hOp hOa hlp hla hkp hka hS2 hG2 hF HCR hx3 hb3 hr3 hw3
      by_cases h0 : F = 0
      · subst h0
        go_wp2_with fail
        rw [← HR3.out.2, ← HR3.out.1]
        refine HSF.out.mono ?_
        rintro e w4 ⟨rfl, hb4⟩
        have c3 : w4.cell? ⟨r3, 0, none⟩ = some (.slice pa pn pcap) := blk_cell (blk_below HX3'.out hb4) 0
        have c4 : w4.cell? ⟨r3, 1, none⟩ = some (.slice aa an acap) := blk_cell (blk_below HX3'.out hb4) 1
        have hx4 := blk_below HX3.out hb4
        have q0 : w4.cell? ⟨w.heap.size, 0, none⟩ = some (.slice none 0 0) := blk_cell hx4 0
        have q1 : w4.cell? ⟨w.heap.size, 1, none⟩ = some (.slice none 0 0) := blk_cell hx4 1
        have f0 : w4.frozen? ⟨w.heap.size, 0, none⟩ = false := blk_free hx4 0
        have f1 : w4.frozen? ⟨w.heap.size, 1, none⟩ = false := blk_free hx4 1
        have lR : w.heap.size < w4.heap.size := blk_lt hx4
        have hRS : ((w4.setCell ⟨w.heap.size, 0, none⟩ (.slice pa pn pcap)).setCell ⟨w.heap.size, 1, none⟩ (.slice aa an acap)).heap[w.heap.size]? = some (.cells #[.slice pa pn pcap, .slice aa an acap] 29 (0, 0)) := by
          have := blk_set (blk_set hx4 0 (.slice pa pn pcap)) 1 (.slice aa an acap)
          simpa using this
        have HRX : Hid (rightX li 8 m = (ps, l)) := Lib.hid (by rw [HE.out, HCX.out, if_pos HF.out.symm])
        have HPF := Lib.hid (RightCat_keep w4 w.heap.size s M2 ps (.slice pa pn pcap) (.slice aa an acap) l hx4 ls (HOp.out.below hb4) (HOa.out.below hb4) (HS3.out.below hb4).str)
        have HGF := Lib.hid (Gr.set (Gr.set (Gr.trans HG3.out (Gr.of_below hb4 (some s))) w.heap.size 0 (.inr (Nat.le_refl _)) (.slice pa pn pcap)) w.heap.size 1 (.inr (Nat.le_refl _)) (.slice aa an acap))
        clear hb4 hx4
        go_wp2
        generalize (w4.setCell ⟨w.heap.size, 0, none⟩ (.slice pa pn pcap)).setCell ⟨w.heap.size, 1, none⟩ (.slice aa an acap) = w8 at *
        have t0 : w8.cell? ⟨w.heap.size, 0, none⟩ = some (.slice pa pn pcap) := blk_cell hRS 0
        have t1 : w8.cell? ⟨w.heap.size, 1, none⟩ = some (.slice aa an acap) := blk_cell hRS 1
        refine bodyPost_ret (v := .agg #[.slice pa pn pcap, .slice aa an acap]) (by simp [results, Tryz.results17, go_sem, t0, t1]) rfl ?_
        rw [HRX.out]
        exact ⟨⟨_, _, rfl, HPF.out.1, HPF.out.2.1⟩, HGF.out⟩
      · have h0' : (F == 0) = false := by simp [h0]
        go_wp2_with fail
        rw [← HR3.out.2, ← HR3.out.1]
        refine HSF.out.mono ?_
        rintro e w4 ⟨rfl, hb4⟩
        have HRX : Hid (rightX li 8 m = rightX li (8 - (k + 1)) M2) := Lib.hid (by rw [HE.out, HCX.out, if_neg (by rw [← HF.out]; exact h0)])
        have HN := Lib.hid (And.intro (And.intro (HS3.out.below hb4) HM2.out) (And.intro (Gr.trans HG3.out (Gr.of_below hb4 (some s))) (blk_below HX3.out hb4)))
        clear hb4
        go_wp2
        go_roundw
        case rel => exact ⟨k + 1, M2, by omega, by go_num, Lib.hid HN.out.1, HRX, Lib.hid HN.out.2.1, Lib.hid HN.out.2.2⟩
        case measure => simp [intOf]; omega
    · obtain rfl : k = 8 := by omega
      have q0 : wr.cell? ⟨w.heap.size, 0, none⟩ = some (.slice none 0 0) := blk_cell HX.out 0
      have q1 : wr.cell? ⟨w.heap.size, 1, none⟩ = some (.slice none 0 0) := blk_cell HX.out 1
      have f0 : wr.frozen? ⟨w.heap.size, 0, none⟩ = false := blk_free HX.out 0
      have f1 : wr.frozen? ⟨w.heap.size, 1, none⟩ = false := blk_free HX.out 1
      have lR : w.heap.size < wr.heap.size := blk_lt HX.out
      have hRS : ((wr.setCell ⟨w.heap.size, 0, none⟩ (.slice none 0 0)).setCell ⟨w.heap.size, 1, none⟩ (.slice none 0 0)).heap[w.heap.size]? = some (.cells #[.slice none 0 0, .slice none 0 0] 29 (0, 0)) := by
        have := blk_set (blk_set HX.out 0 (.slice none 0 0)) 1 (.slice none 0 0)
        simpa using this
      have HPF := Lib.hid (RightCat_keep wr w.heap.size s M [] (.slice none 0 0) (.slice none 0 0) [] HX.out ls (OwnR.nil _ _) (OwnR.nil _ _) HS.out.1.str)
      have HRX : Hid (rightX li 8 m = ([], [])) := Lib.hid HE.out
      have HGF := Lib.hid (Gr.set (Gr.set HG.out w.heap.size 0 (.inr (Nat.le_refl _)) (.slice none 0 0)) w.heap.size 1 (.inr (Nat.le_refl _)) (.slice none 0 0))
      go_wp2
      generalize (wr.setCell ⟨w.heap.size, 0, none⟩ (.slice none 0 0)).setCell ⟨w.heap.size, 1, none⟩ (.slice none 0 0) = w8 at *
      have t0 : w8.cell? ⟨w.heap.size, 0, none⟩ = some (.slice none 0 0) := blk_cell hRS 0
      have t1 : w8.cell? ⟨w.heap.size, 1, none⟩ = some (.slice none 0 0) := blk_cell hRS 1
      refine bodyPost_ret (v := .agg #[.slice none 0 0, .slice none 0 0]) (by simp [results, Tryz.results17, go_sem, t0, t1]) rfl ?_
      rw [HRX.out]
      exact ⟨⟨_, _, rfl, HPF.out.1, HPF.out.2.1⟩, HGF.out⟩
end Go.Proofs.YtihgnpobkpnipaaGreatDoor
