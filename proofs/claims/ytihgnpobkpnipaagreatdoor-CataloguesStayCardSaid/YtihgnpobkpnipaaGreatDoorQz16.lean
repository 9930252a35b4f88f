/- Texts of the proof of a law, put together, part 16 of 41. Conditions: none beyond those that each theorem names. -/
import Derived.Test.YtihgnpobkpnipaaGreatDoorQz15
namespace Go.Proofs.YtihgnpobkpnipaaGreatDoor
open Go.RowKit Go.Sort
set_option maxHeartbeats 16000000 in
set_option maxRecDepth 100000 in
theorem spoilCat_x (s C B m : Nat) (li : List Int) (w0 wb w : World) (Kp : Nat → Prop) (vp va : Value) (ps : List Prt) (l : List Alt) (h : StrX w s li m) (hc : m ≤ 900000) (hs : s < w0.heap.size) (h0g : w0.grownBy w (some s)) (hB0 : w0.heap.size ≤ B)
    (hX : XK wb Kp w) (hC : wb.heap[C]? = some (.cells #[vp, va] 29 (0, 0))) (hKC : Kp C) (hKp : ∀ g, Kp g → g < wb.heap.size ∧ g ≠ s ∧ g < B) (hp : OwnR TPt w B vp ps) (ha : OwnR TAl w B va l) (hpl : ps.length ≤ 1000) (hal : l.length ≤ 1000) :
    Calls Tryz.prog 39 #[.pointer (some ⟨s, 0, none⟩), .pointer (some ⟨C, 0, none⟩)] w fun e w' => e = .returned (.tuple #[]) ∧ OwnR TPt w' B vp (spoilX li m ps l).1 ∧ OwnR TAl w' B va (spoilX li m ps l).2.1 ∧ XK wb Kp w' ∧ StrX w' s li (spoilX li m ps l).2.2 ∧ w0.grownBy w' (some s) := by
  obtain ⟨pa, pcap, rfl, _, _⟩ := hp.form
  obtain ⟨aa, acap, rfl, _, _⟩ := ha.form
  have HCC : Hid (∀ W, XK wb Kp W → W.cell? ⟨C, 0, none⟩ = some (.slice pa ps.length pcap) ∧ W.cell? ⟨C, 1, none⟩ = some (.slice aa l.length acap) ∧ C < W.heap.size) := Lib.hid fun W hW => by
    have h1 := (hW.2 C hKC).trans hC
    exact ⟨blk_cell h1 0, blk_cell h1 1, blk_lt h1⟩
  have HKP9 := Lib.hid hKp
  obtain ⟨cc0, cc1, _⟩ := HCC.out w hX
  clear hC hKC hKp
  have hX1 := hX
  clear hX
  obtain ⟨SX, hSX⟩ : ∃ q, q = spoilX li m ps l := ⟨_, rfl⟩
  have HSX := Lib.hid hSX
  rw [← hSX]
  clear hSX
  go_enter Tryz.func39, Tryz.ntmps39
  by_cases h0 : l.length = 0
  · have h0' : ¬ (0 : Int) < (l.length : Int) := by omega
    obtain ⟨w8, hw8⟩ : ∃ w8, w8 = w := ⟨_, rfl⟩
    have hS8 : StrX w8 s li m := by rw [hw8]; exact h
    have hX8 : XK wb Kp w8 := by rw [hw8]; exact hX1
    have hp8 : OwnR TPt w8 B (.slice pa ps.length pcap) ps := by rw [hw8]; exact hp
    have ha8 : OwnR TAl w8 B (.slice aa l.length acap) l := by rw [hw8]; exact ha
    have hG8 : w0.grownBy w8 (some s) := by rw [hw8]; exact h0g
    rw [← hw8] at cc0 cc1
    rw [← hw8]
    clear hw8
    obtain ⟨_, _, lC⟩ := HCC.out w8 hX8
    obtain ⟨m8, hm8⟩ : ∃ m8, m8 = m := ⟨_, rfl⟩
    have HR : Hid (spoilX li m ps l = ((spP li m8 ps).1, l, (spP li m8 ps).2)) := Lib.hid (by rw [hm8]; exact spoilX_no h0)
    rw [← hm8] at hS8
    have hm9 : m8 ≤ 900001 := by omega
    clear h hp ha h0g hX1 hm8
    have hq0 := h0
    clear h0
    by_cases h0 : ps.length = 0
    · have h1' : ¬ (0 : Int) < (ps.length : Int) := by omega
      have HF := Lib.hid (show OwnR TPt w8 B (.slice pa ps.length pcap) SX.1 ∧ OwnR TAl w8 B (.slice aa l.length acap) SX.2.1 ∧ XK wb Kp w8 ∧ StrX w8 s li SX.2.2 ∧ w0.grownBy w8 (some s) from by
        rw [HSX.out, HR.out, spP_none h0]
        exact ⟨hp8, ha8, hX8, hS8, hG8⟩)
      have HQ0 := Lib.hid (And.intro hq0 h0)
      clear hX8 hS8 hG8 hp8 ha8
      go_wp2
      go_end0
      exact ⟨rfl, (by have hh := HF.out.1; first | exact hh | (rw [HQ0.out.2] at hh; exact hh)), (by have hh := HF.out.2.1; first | exact hh | (rw [HQ0.out.1] at hh; exact hh)), HF.out.2.2.1, HF.out.2.2.2.1, HF.out.2.2.2.2⟩
    · have h1' : (0 : Int) < (ps.length : Int) := by omega
      go_wp2_with fail
      have hne : ps ≠ [] := fun e => h0 (by rw [e]; rfl)
      obtain ⟨go, cap, cur, hoa, hgo, hgb, _, _⟩ := hp8.blk hne
      injection hoa with hoa1 _ hoa2
      subst hoa1 hoa2
      have HOTY : Hid (∀ k, (Value.slice aa l.length acap).ownBlock = some k → k ≠ go) := Lib.hid fun k hk e => by
        subst e
        obtain ⟨_, c1, h1⟩ := (ownR_k TAl B).blk ha8 hk
        rw [hgb] at h1
        injection h1 with h1
        injection h1 with _ e2 _
        exact absurd e2 (by decide)
      clear hgb
      have ls8 := hS8.lt
      have hsg : s < go := by omega
      obtain ⟨j, hj⟩ : ∃ j, j = (nxX li m8 ps.length).toNat := ⟨_, rfl⟩
      obtain ⟨hj1, hj2⟩ := nxX_rng li m8 ps.length
      have hjI : ((j : Nat) : Int) = nxX li m8 ps.length := by rw [hj]; omega
      have hjn : j < ps.length := by omega
      obtain ⟨x, hx⟩ : ∃ x, ps[j]? = some x := ⟨_, List.getElem?_eq_getElem hjn⟩
      obtain ⟨kx, px, lx, bx⟩ := x
      have HJX := Lib.hid (And.intro hj hx)
      have HC0 : Hid (∀ W, StrX W s li (m8 + 0) → Calls Tryz.prog 23 #[.pointer (some ⟨s, 0, none⟩), .int .i64 ps.length] W fun e w' => e = .returned (.int .i64 j) ∧ StrX w' s li (m8 + 0 + 1) ∧ W.grownBy w' (some s)) := Lib.hid fun W hS => by
        rw [hjI]
        exact Next_x s m8 li _ W hS (by omega) (by omega)
      have HXC : Hid (∀ W, (XK wb Kp W ∧ OwnR TAl W B (.slice aa l.length acap) l) → ∀ W', Below W.heap.size W W' → (XK wb Kp W' ∧ OwnR TAl W' B (.slice aa l.length acap) l)) := Lib.hid fun W hW W' hb => ⟨hW.1.below HKP9.out hb, hW.2.below hb⟩
      have HXG : Hid (∀ W, (XK wb Kp W ∧ OwnR TAl W B (.slice aa l.length acap) l) → ∀ W', W.grownBy W' (some s) → (XK wb Kp W' ∧ OwnR TAl W' B (.slice aa l.length acap) l)) := Lib.hid fun W hW W' hb => ⟨hW.1.gr HKP9.out hb, hW.2.grown hb (by omega)⟩
      have hK : ∀ a b c : Bool, OwnK ((fun _ _ _ W => OwnR TPt W B (.slice (some ⟨go, 0, none⟩) ps.length pcap) ps ∧ (XK wb Kp W ∧ OwnR TAl W B (.slice aa l.length acap) l) : Bool → Bool → Bool → World → Prop) a b c) s := fun _ _ _ => ⟨fun W W' h hb => ⟨h.1.below hb, HXC.out W h.2 W' hb⟩, fun W W' h hg => ⟨h.1.grown hg (by omega), HXG.out W h.2 W' hg⟩⟩
      have HKP : Hid (∀ (listed : Array Bool) (i : Nat) (W : World), listed.size = 13 → i < 13 → i ∉ ([10] : List Nat) → BX (fun _ _ _ W => OwnR TPt W B (.slice (some ⟨go, 0, none⟩) ps.length pcap) ps ∧ (XK wb Kp W ∧ OwnR TAl W B (.slice aa l.length acap) l)) w0 s (w8.heap.size) li m8 (listed.getD 10 false) false false false false false W → BX (fun _ _ _ W => OwnR TPt W B (.slice (some ⟨go, 0, none⟩) ps.length pcap) ps ∧ (XK wb Kp W ∧ OwnR TAl W B (.slice aa l.length acap) l)) w0 s (w8.heap.size) li m8 ((listed.setIfInBounds i true).getD 10 false) false false false false false W) := Lib.hid fun listed i W hs hi hn h => by
        rw [gd_out hs hi (fun e => hn (by rw [← e]; decide))]
        exact h
      refine wp_region_sx (by kernel_rfl) [63, 64, 65, 66, 67, 68, 69, 70, 71, 72, 73, 74, 5] (fun (listed : Array Bool) (W : World) => BX (fun _ _ _ W => OwnR TPt W B (.slice (some ⟨go, 0, none⟩) ps.length pcap) ps ∧ (XK wb Kp W ∧ OwnR TAl W B (.slice aa l.length acap) l)) w0 s (w8.heap.size) li m8 (listed.getD 10 false) false false false false false W) (RR (w8.heap.size)) (fun i => [VE (.pointer (some ⟨C, 0, none⟩)), VE (.pointer (some ⟨C, 0, none⟩)), VE (.pointer (some ⟨C, 0, none⟩)), VE (.slice (some ⟨go, 0, none⟩) ps.length pcap), VE (.pointer (some ⟨s, 0, none⟩)), VE (.pointer (some ⟨C, 0, none⟩)), VE (.pointer (some ⟨C, 0, none⟩)), VE (.pointer (some ⟨C, 0, none⟩)), VE (.slice (some ⟨go, 0, none⟩) ps.length pcap), VE (.int .i64 ps.length), VE (.int .i64 j), VE (.pointer (some ⟨go, j * 4, none⟩)), VE (.pointer (some ⟨go, j * 4, none⟩))].getD i VT) (by kernel_rfl) (by kernel_rfl) ?_ ?_ ?_ ?_ ?_
      · simp only [gd_start]
        exact ⟨by simpa using hS8.drew, ⟨hp8, ⟨hX8, ha8⟩⟩, Nat.le_refl _, ⟨hG8.os, hG8.tape, hG8.output, hG8.size, hG8.block⟩⟩
      · intro listed W W' i v hB hR hV
        exact match i, hV with
          | 0, h => h
          | 1, h => h
          | 2, h => h
          | 3, h => h
          | 4, h => h
          | 5, h => h
          | 6, h => h
          | 7, h => h
          | 8, h => h
          | 9, h => h
          | 10, h => h
          | 11, h => h
          | 12, h => h
          | (_ + 13), _ => trivial
      · intro i o v W ho hd
        match i, ho with
          | 0, ho => (obtain rfl := Option.some.inj ho; cases hd)
          | 1, ho => (obtain rfl := Option.some.inj ho; cases hd)
          | 2, ho => (obtain rfl := Option.some.inj ho; cases hd)
          | 3, ho => (obtain rfl := Option.some.inj ho; cases hd)
          | 4, ho => (obtain rfl := Option.some.inj ho; cases hd)
          | 5, ho => (obtain rfl := Option.some.inj ho; cases hd)
          | 6, ho => (obtain rfl := Option.some.inj ho; cases hd)
          | 7, ho => (obtain rfl := Option.some.inj ho; cases hd)
          | 8, ho => (obtain rfl := Option.some.inj ho; cases hd)
          | 9, ho => (obtain rfl := Option.some.inj ho; cases hd)
          | 10, ho => (obtain rfl := Option.some.inj ho; cases hd)
          | 11, ho => (obtain rfl := Option.some.inj ho; cases hd)
          | 12, ho => (obtain rfl := Option.some.inj ho; cases hd)
          | (_ + 13), _ => trivial
      · intro listed i o f W ho hi hs hli hcl hdl hB hdep
        replace hs : listed.size = 13 := hs
        replace hB : BX (fun _ _ _ W => OwnR TPt W B (.slice (some ⟨go, 0, none⟩) ps.length pcap) ps ∧ (XK wb Kp W ∧ OwnR TAl W B (.slice aa l.length acap) l)) w0 s (w8.heap.size) li m8 (listed.getD 10 false) false false false false false W := hB
        have hi' : i = 0 ∨ i = 1 ∨ i = 2 ∨ i = 3 ∨ i = 4 ∨ i = 5 ∨ i = 6 ∨ i = 7 ∨ i = 8 ∨ i = 9 ∨ i = 10 ∨ i = 11 ∨ i = 12 := by
          have : i < 13 := hi
          omega
        rcases hi' with rfl | rfl | rfl | rfl | rfl | rfl | rfl | rfl | rfl | rfl | rfl | rfl | rfl
        · refine iv_val ho (by obtain rfl := Option.some.inj ho; rfl) (.pointer (some ⟨C, 0, none⟩)) W ?_ (HKP.out listed 0 _ hs (by decide) (by decide) hB) (RR.refl _ _) rfl
          · intro q hq
            obtain rfl := Option.some.inj ho
            have e1 := hq.tmp 1
            simp at e1
            simp [execOp, e1, go_sem]
        · have d63 : f 63 = .pointer (some ⟨C, 0, none⟩) := hdep ⟨0, .data⟩ (by obtain rfl := Option.some.inj ho; simp) rfl
          refine iv_val ho (by obtain rfl := Option.some.inj ho; rfl) (.pointer (some ⟨C, 0, none⟩)) W ?_ (HKP.out listed 1 _ hs (by decide) (by decide) hB) (RR.refl _ _) rfl
          · intro q hq
            obtain rfl := Option.some.inj ho
            have e63 := hq.tmp 63
            simp at e63
            simp [execOp, e63, d63, go_sem]
        · have d64 : f 64 = .pointer (some ⟨C, 0, none⟩) := hdep ⟨1, .data⟩ (by obtain rfl := Option.some.inj ho; simp) rfl
          refine iv_val ho (by obtain rfl := Option.some.inj ho; rfl) (.pointer (some ⟨C, 0, none⟩)) W ?_ (HKP.out listed 2 _ hs (by decide) (by decide) hB) (RR.refl _ _) rfl
          · intro q hq
            obtain rfl := Option.some.inj ho
            have e64 := hq.tmp 64
            simp at e64
            simp [execOp, e64, d64, go_sem]
        · have d65 : f 65 = .pointer (some ⟨C, 0, none⟩) := hdep ⟨2, .data⟩ (by obtain rfl := Option.some.inj ho; simp) rfl
          have y9 := (HCC.out W hB.own.2.1).1
          refine iv_val ho (by obtain rfl := Option.some.inj ho; rfl) (.slice (some ⟨go, 0, none⟩) ps.length pcap) W ?_ (HKP.out listed 3 _ hs (by decide) (by decide) hB) (RR.refl _ _) rfl
          · intro q hq
            obtain rfl := Option.some.inj ho
            have e65 := hq.tmp 65
            simp at e65
            simp [execOp, e65, d65, go_sem, y9]
        · refine iv_val ho (by obtain rfl := Option.some.inj ho; rfl) (.pointer (some ⟨s, 0, none⟩)) W ?_ (HKP.out listed 4 _ hs (by decide) (by decide) hB) (RR.refl _ _) rfl
          · intro q hq
            obtain rfl := Option.some.inj ho
            have e0 := hq.tmp 0
            simp at e0
            simp [execOp, e0, go_sem]
        · refine iv_val ho (by obtain rfl := Option.some.inj ho; rfl) (.pointer (some ⟨C, 0, none⟩)) W ?_ (HKP.out listed 5 _ hs (by decide) (by decide) hB) (RR.refl _ _) rfl
          · intro q hq
            obtain rfl := Option.some.inj ho
            have e1 := hq.tmp 1
            simp at e1
            simp [execOp, e1, go_sem]
        · have d68 : f 68 = .pointer (some ⟨C, 0, none⟩) := hdep ⟨5, .data⟩ (by obtain rfl := Option.some.inj ho; simp) rfl
          refine iv_val ho (by obtain rfl := Option.some.inj ho; rfl) (.pointer (some ⟨C, 0, none⟩)) W ?_ (HKP.out listed 6 _ hs (by decide) (by decide) hB) (RR.refl _ _) rfl
          · intro q hq
            obtain rfl := Option.some.inj ho
            have e68 := hq.tmp 68
            simp at e68
            simp [execOp, e68, d68, go_sem]
        · have d69 : f 69 = .pointer (some ⟨C, 0, none⟩) := hdep ⟨6, .data⟩ (by obtain rfl := Option.some.inj ho; simp) rfl
          refine iv_val ho (by obtain rfl := Option.some.inj ho; rfl) (.pointer (some ⟨C, 0, none⟩)) W ?_ (HKP.out listed 7 _ hs (by decide) (by decide) hB) (RR.refl _ _) rfl
          · intro q hq
            obtain rfl := Option.some.inj ho
            have e69 := hq.tmp 69
            simp at e69
            simp [execOp, e69, d69, go_sem]
        · have d70 : f 70 = .pointer (some ⟨C, 0, none⟩) := hdep ⟨7, .data⟩ (by obtain rfl := Option.some.inj ho; simp) rfl
          have y9 := (HCC.out W hB.own.2.1).1
          refine iv_val ho (by obtain rfl := Option.some.inj ho; rfl) (.slice (some ⟨go, 0, none⟩) ps.length pcap) W ?_ (HKP.out listed 8 _ hs (by decide) (by decide) hB) (RR.refl _ _) rfl
          · intro q hq
            obtain rfl := Option.some.inj ho
            have e70 := hq.tmp 70
            simp at e70
            simp [execOp, e70, d70, go_sem, y9]
        · have d71 : f 71 = .slice (some ⟨go, 0, none⟩) ps.length pcap := hdep ⟨8, .data⟩ (by obtain rfl := Option.some.inj ho; simp) rfl
          refine iv_val ho (by obtain rfl := Option.some.inj ho; rfl) (.int .i64 ps.length) W ?_ (HKP.out listed 9 _ hs (by decide) (by decide) hB) (RR.refl _ _) rfl
          · intro q hq
            obtain rfl := Option.some.inj ho
            have e71 := hq.tmp 71
            simp at e71
            simp [execOp, e71, d71, go_sem, resolve, invoke, builtin]
        · have d67 : f 67 = .pointer (some ⟨s, 0, none⟩) := hdep ⟨4, .data⟩ (by obtain rfl := Option.some.inj ho; simp) rfl
          have d72 : f 72 = .int .i64 ps.length := hdep ⟨9, .data⟩ (by obtain rfl := Option.some.inj ho; simp) rfl
          rw [hli] at hB
          have hS : StrX W s li (m8 + 0) := by simpa using hB.str
          refine iv_call ho (by obtain rfl := Option.some.inj ho; rfl) 23 #[.tmp 67, .tmp 72] _ (by obtain rfl := Option.some.inj ho; rfl) (enters_of Tryz.func23 (by kernel_rfl) rfl) #[.pointer (some ⟨s, 0, none⟩), .int .i64 ps.length] (by intro q hq; have e67 := hq.tmp 67; simp at e67; have e72 := hq.tmp 72; simp at e72; simp [e67, e72, d67, d72]) _ (HC0.out W hS) ?_
          rintro e W' ⟨rfl, hs', hg'⟩
          have hN : BX (fun _ _ _ W => OwnR TPt W B (.slice (some ⟨go, 0, none⟩) ps.length pcap) ps ∧ (XK wb Kp W ∧ OwnR TAl W B (.slice aa l.length acap) l)) w0 s (w8.heap.size) li m8 true false false false false false W' := hB.call hK (by simpa using hs') hg'
          refine ⟨_, rfl, ?_, RR.of_gr hg' (by omega), rfl⟩
          show BX (fun _ _ _ W => OwnR TPt W B (.slice (some ⟨go, 0, none⟩) ps.length pcap) ps ∧ (XK wb Kp W ∧ OwnR TAl W B (.slice aa l.length acap) l)) w0 s (w8.heap.size) li m8 ((listed.setIfInBounds 10 true).getD 10 false) false false false false false W'
          rw [gd_in hs (by decide)]
          exact hN
        · have d66 : f 66 = .slice (some ⟨go, 0, none⟩) ps.length pcap := hdep ⟨3, .data⟩ (by obtain rfl := Option.some.inj ho; simp) rfl
          have d73 : f 73 = .int .i64 j := hdep ⟨10, .data⟩ (by obtain rfl := Option.some.inj ho; simp) rfl
          have i1 : (0 : Int) ≤ (j : Int) := by omega
          have i2 : (j : Int) < (ps.length : Int) := by omega
          refine iv_val ho (by obtain rfl := Option.some.inj ho; rfl) (.pointer (some ⟨go, j * 4, none⟩)) W ?_ (HKP.out listed 11 _ hs (by decide) (by decide) hB) (RR.refl _ _) rfl
          · intro q hq
            obtain rfl := Option.some.inj ho
            have e66 := hq.tmp 66
            have e73 := hq.tmp 73
            simp at e66 e73
            simp [execOp, e66, e73, d66, d73, go_sem, i1, i2]
        · have d74 : f 74 = .pointer (some ⟨go, j * 4, none⟩) := hdep ⟨11, .data⟩ (by obtain rfl := Option.some.inj ho; simp) rfl
          refine iv_val ho (by obtain rfl := Option.some.inj ho; rfl) (.pointer (some ⟨go, j * 4, none⟩)) W ?_ (HKP.out listed 12 _ hs (by decide) (by decide) hB) (RR.refl _ _) rfl
          · intro q hq
            obtain rfl := Option.some.inj ho
            have e74 := hq.tmp 74
            simp at e74
            simp [execOp, e74, d74, go_sem]
      intro listed9 f9 w9 hall hB9 hV9
      have hd4 : f9 5 = .pointer (some ⟨go, j * 4, none⟩) := hV9 12 (by decide)
      have hl9 : listed9.getD 10 false = true := hall 10 (by decide)
      replace hB9 : BX (fun _ _ _ W => OwnR TPt W B (.slice (some ⟨go, 0, none⟩) ps.length pcap) ps ∧ (XK wb Kp W ∧ OwnR TAl W B (.slice aa l.length acap) l)) w0 s (w8.heap.size) li m8 (listed9.getD 10 false) false false false false false w9 := hB9
      rw [hl9] at hB9
      unfold putsA
      simp only [List.mapIdx_toArray, List.mapIdx_cons, List.mapIdx_nil, List.contains_cons]
      simp
      rw [hd4]
      obtain ⟨hS9, ⟨hO9, hX9⟩, hz9, hG9⟩ := hB9
      replace hS9 : StrX w9 s li (m8 + 1) := hS9
      have ls9 := hS9.lt
      have lgo9 : go < w9.heap.size := (World.ownsRow.lt hO9 go rfl).2
      have HXS : Hid (∀ W o v, (XK wb Kp W ∧ OwnR TAl W B (.slice aa l.length acap) l) → (XK wb Kp (W.setCell ⟨go, o, none⟩ v) ∧ OwnR TAl (W.setCell ⟨go, o, none⟩ v) B (.slice aa l.length acap) l)) := Lib.hid fun W o v hW => ⟨hW.1.set HKP9.out hgo o v, (ownR_k TAl B).keep hW.2 fun k hk => Below.heap_setCell _ ⟨go, o, none⟩ _ k (HOTY.out k hk)⟩
      clear hV9 hd4 hall hl9 hX8 hS8 hp8 ha8 hG8 hK HKP HC0
      obtain ⟨y0, hy0⟩ : ∃ q, q = smX li (m8 + 1) [kx, ⟨#[]⟩, ⟨#[98]⟩] := ⟨_, rfl⟩
      obtain ⟨y1, hy1⟩ : ∃ q, q = pkX li (m8 + 1 + 1) [lx, 0, 7] := ⟨_, rfl⟩
      obtain ⟨y2, hy2⟩ : ∃ q, q = pkX li (m8 + 1 + 2) [bx, -1, 720000001] := ⟨_, rfl⟩
      have HY := Lib.hid (And.intro hy0 (And.intro hy1 hy2))
      have HC1 : Hid (∀ W v, StrX W s li (m8 + 1 + 0) → RecR TS W (s + 1) v [kx, (⟨#[]⟩ : ByteArray), (⟨#[98]⟩ : ByteArray)] → Calls Tryz.prog 34 #[.pointer (some ⟨s, 0, none⟩), v] W fun e w' => e = .returned (.string y0) ∧ StrX w' s li (m8 + 1 + 0 + 1) ∧ W.grownBy w' (some s)) := Lib.hid fun W v hS hr => by
        rw [hy0]
        exact Some_x s _ li _ v W hS (by omega) hr (by simp) (by simp)
      have HC2 : Hid (∀ W v, StrX W s li (m8 + 1 + 1) → Ints W (s + 1) v [lx, (0 : Int), (7 : Int)] → Calls Tryz.prog 35 #[.pointer (some ⟨s, 0, none⟩), v] W fun e w' => e = .returned (.int .i64 y1) ∧ StrX w' s li (m8 + 1 + 1 + 1) ∧ W.grownBy w' (some s)) := Lib.hid fun W v hS hr => by
        rw [hy1]
        exact Pick_x s _ li _ v W hS (by omega) hr (by simp) (by simp)
      have HC3 : Hid (∀ W v, StrX W s li (m8 + 1 + 2) → Ints W (s + 1) v [bx, (-1 : Int), (720000001 : Int)] → Calls Tryz.prog 35 #[.pointer (some ⟨s, 0, none⟩), v] W fun e w' => e = .returned (.int .i64 y2) ∧ StrX w' s li (m8 + 1 + 2 + 1) ∧ W.grownBy w' (some s)) := Lib.hid fun W v hS hr => by
        rw [hy2]
        exact Pick_x s _ li _ v W hS (by omega) hr (by simp) (by simp)
      have hsj : ps.set j (kx, px, lx, bx) = ps := by
        obtain ⟨h1, h2⟩ := List.getElem?_eq_some_iff.1 HJX.out.2
        rw [← h2]
        exact List.set_getElem_self h1
      have hO9' : OwnR TPt w9 B (.slice (some ⟨go, 0, none⟩) ps.length pcap) (ps.set j (kx, px, lx, bx)) := by rw [hsj]; exact hO9
      have hK : ∀ a b c : Bool, OwnK (((fun t0 t1 t2 W => OwnR TPt W B (.slice (some ⟨go, 0, none⟩) ps.length pcap) (ps.set j (cond t0 y0 kx, px, cond t1 y1 lx, cond t2 y2 bx)) ∧ (XK wb Kp W ∧ OwnR TAl W B (.slice aa l.length acap) l)) : Bool → Bool → Bool → World → Prop) a b c) s := fun _ _ _ => ⟨fun W W' h hb => ⟨h.1.below hb, HXC.out W h.2 W' hb⟩, fun W W' h hg => ⟨h.1.grown hg (by omega), HXG.out W h.2 W' hg⟩⟩
      clear hsj hO9 hy0 hy1 hy2 hj hx hjI hj1 hj2
      go_wp2
      have HKP : Hid (∀ (listed : Array Bool) (i : Nat) (W : World), listed.size = 33 → i < 33 → i ∉ ([9, 16, 23, 26, 29, 32] : List Nat) → BX (fun t0 t1 t2 W => OwnR TPt W B (.slice (some ⟨go, 0, none⟩) ps.length pcap) (ps.set j (cond t0 y0 kx, px, cond t1 y1 lx, cond t2 y2 bx)) ∧ (XK wb Kp W ∧ OwnR TAl W B (.slice aa l.length acap) l)) w0 s (w9.heap.size) li (m8 + 1) (listed.getD 9 false) (listed.getD 16 false) (listed.getD 23 false) (listed.getD 26 false) (listed.getD 29 false) (listed.getD 32 false) W → BX (fun t0 t1 t2 W => OwnR TPt W B (.slice (some ⟨go, 0, none⟩) ps.length pcap) (ps.set j (cond t0 y0 kx, px, cond t1 y1 lx, cond t2 y2 bx)) ∧ (XK wb Kp W ∧ OwnR TAl W B (.slice aa l.length acap) l)) w0 s (w9.heap.size) li (m8 + 1) ((listed.setIfInBounds i true).getD 9 false) ((listed.setIfInBounds i true).getD 16 false) ((listed.setIfInBounds i true).getD 23 false) ((listed.setIfInBounds i true).getD 26 false) ((listed.setIfInBounds i true).getD 29 false) ((listed.setIfInBounds i true).getD 32 false) W) := Lib.hid fun listed i W hs hi hn h => by
        rw [gd_out hs hi (fun e => hn (by rw [← e]; decide)), gd_out hs hi (fun e => hn (by rw [← e]; decide)), gd_out hs hi (fun e => hn (by rw [← e]; decide)), gd_out hs hi (fun e => hn (by rw [← e]; decide)), gd_out hs hi (fun e => hn (by rw [← e]; decide)), gd_out hs hi (fun e => hn (by rw [← e]; decide))]
        exact h
      refine wp_region_sx (by kernel_rfl) [75, 76, 77, 78, 79, 80, 81, 82, 83, 84, 85, 86, 87, 88, 89, 90, 91, 92, 93, 94, 95, 96, 97, 98, 99, 100, 101, 102, 103, 104] (fun (listed : Array Bool) (W : World) => BX (fun t0 t1 t2 W => OwnR TPt W B (.slice (some ⟨go, 0, none⟩) ps.length pcap) (ps.set j (cond t0 y0 kx, px, cond t1 y1 lx, cond t2 y2 bx)) ∧ (XK wb Kp W ∧ OwnR TAl W B (.slice aa l.length acap) l)) w0 s (w9.heap.size) li (m8 + 1) (listed.getD 9 false) (listed.getD 16 false) (listed.getD 23 false) (listed.getD 26 false) (listed.getD 29 false) (listed.getD 32 false) W) (RR (w9.heap.size)) (fun i => [VE (.pointer (some ⟨go, j * 4, none⟩)), VE (.pointer (some ⟨go, j * 4, none⟩)), VE (.pointer (some ⟨go, j * 4, none⟩)), VE (.pointer (some ⟨s, 0, none⟩)), VE (.pointer (some ⟨go, j * 4, none⟩)), VE (.pointer (some ⟨go, j * 4, none⟩)), VE (.pointer (some ⟨go, j * 4, none⟩)), VE (.string kx), VLSx (w9.heap.size) [kx, (⟨#[]⟩ : ByteArray), (⟨#[98]⟩ : ByteArray)], VE (.string y0), VE (.pointer (some ⟨s, 0, none⟩)), VE (.pointer (some ⟨go, j * 4, none⟩)), VE (.pointer (some ⟨go, j * 4, none⟩)), VE (.pointer (some ⟨go, j * 4 + 2, none⟩)), VE (.int .i64 lx), VLIx (w9.heap.size) [lx, (0 : Int), (7 : Int)], VE (.int .i64 y1), VE (.pointer (some ⟨s, 0, none⟩)), VE (.pointer (some ⟨go, j * 4, none⟩)), VE (.pointer (some ⟨go, j * 4, none⟩)), VE (.pointer (some ⟨go, j * 4 + 3, none⟩)), VE (.int .i64 bx), VLIx (w9.heap.size) [bx, (-1 : Int), (720000001 : Int)], VE (.int .i64 y2), VE (.pointer (some ⟨go, j * 4, none⟩)), VE (.pointer (some ⟨go, j * 4, none⟩)), VT, VE (.pointer (some ⟨go, j * 4, none⟩)), VE (.pointer (some ⟨go, j * 4 + 2, none⟩)), VT, VE (.pointer (some ⟨go, j * 4, none⟩)), VE (.pointer (some ⟨go, j * 4 + 3, none⟩)), VT].getD i VT) (by kernel_rfl) (by kernel_rfl) ?_ ?_ ?_ ?_ ?_
      · simp only [gd_start]
        exact ⟨by simpa using hS9.drew, ⟨hO9', hX9⟩, Nat.le_refl _, ⟨hG9.os, hG9.tape, hG9.output, hG9.size, hG9.block⟩⟩
      · intro listed W W' i v hB hR hV
        exact match i, hV with
          | 0, h => h
          | 1, h => h
          | 2, h => h
          | 3, h => h
          | 4, h => h
          | 5, h => h
          | 6, h => h
          | 7, h => h
          | 8, h => VLSx.stab h hR
          | 9, h => h
          | 10, h => h
          | 11, h => h
          | 12, h => h
          | 13, h => h
          | 14, h => h
          | 15, h => VLIx.stab h hR
          | 16, h => h
          | 17, h => h
          | 18, h => h
          | 19, h => h
          | 20, h => h
          | 21, h => h
          | 22, h => VLIx.stab h hR
          | 23, h => h
          | 24, h => h
          | 25, h => h
          | 26, h => h
          | 27, h => h
          | 28, h => h
          | 29, h => h
          | 30, h => h
          | 31, h => h
          | 32, h => h
          | (_ + 33), _ => trivial
      · intro i o v W ho hd
        match i, ho with
          | 0, ho => (obtain rfl := Option.some.inj ho; cases hd)
          | 1, ho => (obtain rfl := Option.some.inj ho; cases hd)
          | 2, ho => (obtain rfl := Option.some.inj ho; cases hd)
          | 3, ho => (obtain rfl := Option.some.inj ho; cases hd)
          | 4, ho => (obtain rfl := Option.some.inj ho; cases hd)
          | 5, ho => (obtain rfl := Option.some.inj ho; cases hd)
          | 6, ho => (obtain rfl := Option.some.inj ho; cases hd)
          | 7, ho => (obtain rfl := Option.some.inj ho; cases hd)
          | 8, ho => (obtain rfl := Option.some.inj ho; cases hd)
          | 9, ho => (obtain rfl := Option.some.inj ho; cases hd)
          | 10, ho => (obtain rfl := Option.some.inj ho; cases hd)
          | 11, ho => (obtain rfl := Option.some.inj ho; cases hd)
          | 12, ho => (obtain rfl := Option.some.inj ho; cases hd)
          | 13, ho => (obtain rfl := Option.some.inj ho; cases hd)
          | 14, ho => (obtain rfl := Option.some.inj ho; cases hd)
          | 15, ho => (obtain rfl := Option.some.inj ho; cases hd)
          | 16, ho => (obtain rfl := Option.some.inj ho; cases hd)
          | 17, ho => (obtain rfl := Option.some.inj ho; cases hd)
          | 18, ho => (obtain rfl := Option.some.inj ho; cases hd)
          | 19, ho => (obtain rfl := Option.some.inj ho; cases hd)
          | 20, ho => (obtain rfl := Option.some.inj ho; cases hd)
          | 21, ho => (obtain rfl := Option.some.inj ho; cases hd)
          | 22, ho => (obtain rfl := Option.some.inj ho; cases hd)
          | 23, ho => (obtain rfl := Option.some.inj ho; cases hd)
          | 24, ho => (obtain rfl := Option.some.inj ho; cases hd)
          | 25, ho => (obtain rfl := Option.some.inj ho; cases hd)
          | 26, ho => trivial
          | 27, ho => (obtain rfl := Option.some.inj ho; cases hd)
          | 28, ho => (obtain rfl := Option.some.inj ho; cases hd)
          | 29, ho => trivial
          | 30, ho => (obtain rfl := Option.some.inj ho; cases hd)
          | 31, ho => (obtain rfl := Option.some.inj ho; cases hd)
          | 32, ho => trivial
          | (_ + 33), _ => trivial
      · intro listed i o f W ho hi hs hli hcl hdl hB hdep
        replace hs : listed.size = 33 := hs
        replace hB : BX (fun t0 t1 t2 W => OwnR TPt W B (.slice (some ⟨go, 0, none⟩) ps.length pcap) (ps.set j (cond t0 y0 kx, px, cond t1 y1 lx, cond t2 y2 bx)) ∧ (XK wb Kp W ∧ OwnR TAl W B (.slice aa l.length acap) l)) w0 s (w9.heap.size) li (m8 + 1) (listed.getD 9 false) (listed.getD 16 false) (listed.getD 23 false) (listed.getD 26 false) (listed.getD 29 false) (listed.getD 32 false) W := hB
        have hi' : i = 0 ∨ i = 1 ∨ i = 2 ∨ i = 3 ∨ i = 4 ∨ i = 5 ∨ i = 6 ∨ i = 7 ∨ i = 8 ∨ i = 9 ∨ i = 10 ∨ i = 11 ∨ i = 12 ∨ i = 13 ∨ i = 14 ∨ i = 15 ∨ i = 16 ∨ i = 17 ∨ i = 18 ∨ i = 19 ∨ i = 20 ∨ i = 21 ∨ i = 22 ∨ i = 23 ∨ i = 24 ∨ i = 25 ∨ i = 26 ∨ i = 27 ∨ i = 28 ∨ i = 29 ∨ i = 30 ∨ i = 31 ∨ i = 32 := by
          have : i < 33 := hi
          omega
        rcases hi' with rfl | rfl | rfl | rfl | rfl | rfl | rfl | rfl | rfl | rfl | rfl | rfl | rfl | rfl | rfl | rfl | rfl | rfl | rfl | rfl | rfl | rfl | rfl | rfl | rfl | rfl | rfl | rfl | rfl | rfl | rfl | rfl | rfl
        · refine iv_val ho (by obtain rfl := Option.some.inj ho; rfl) (.pointer (some ⟨go, j * 4, none⟩)) W ?_ (HKP.out listed 0 _ hs (by decide) (by decide) hB) (RR.refl _ _) rfl
          · intro q hq
            obtain rfl := Option.some.inj ho
            have e5 := hq.tmp 5
            simp at e5
            simp [execOp, e5, go_sem]
        · refine iv_val ho (by obtain rfl := Option.some.inj ho; rfl) (.pointer (some ⟨go, j * 4, none⟩)) W ?_ (HKP.out listed 1 _ hs (by decide) (by decide) hB) (RR.refl _ _) rfl
          · intro q hq
            obtain rfl := Option.some.inj ho
            have e5 := hq.tmp 5
            simp at e5
            simp [execOp, e5, go_sem]
        · refine iv_val ho (by obtain rfl := Option.some.inj ho; rfl) (.pointer (some ⟨go, j * 4, none⟩)) W ?_ (HKP.out listed 2 _ hs (by decide) (by decide) hB) (RR.refl _ _) rfl
          · intro q hq
            obtain rfl := Option.some.inj ho
            have e5 := hq.tmp 5
            simp at e5
            simp [execOp, e5, go_sem]
        · refine iv_val ho (by obtain rfl := Option.some.inj ho; rfl) (.pointer (some ⟨s, 0, none⟩)) W ?_ (HKP.out listed 3 _ hs (by decide) (by decide) hB) (RR.refl _ _) rfl
          · intro q hq
            obtain rfl := Option.some.inj ho
            have e0 := hq.tmp 0
            simp at e0
            simp [execOp, e0, go_sem]
        · refine iv_val ho (by obtain rfl := Option.some.inj ho; rfl) (.pointer (some ⟨go, j * 4, none⟩)) W ?_ (HKP.out listed 4 _ hs (by decide) (by decide) hB) (RR.refl _ _) rfl
          · intro q hq
            obtain rfl := Option.some.inj ho
            have e5 := hq.tmp 5
            simp at e5
            simp [execOp, e5, go_sem]
        · have d79 : f 79 = .pointer (some ⟨go, j * 4, none⟩) := hdep ⟨4, .data⟩ (by obtain rfl := Option.some.inj ho; simp) rfl
          refine iv_val ho (by obtain rfl := Option.some.inj ho; rfl) (.pointer (some ⟨go, j * 4, none⟩)) W ?_ (HKP.out listed 5 _ hs (by decide) (by decide) hB) (RR.refl _ _) rfl
          · intro q hq
            obtain rfl := Option.some.inj ho
            have e79 := hq.tmp 79
            simp at e79
            simp [execOp, e79, d79, go_sem]
        · have d80 : f 80 = .pointer (some ⟨go, j * 4, none⟩) := hdep ⟨5, .data⟩ (by obtain rfl := Option.some.inj ho; simp) rfl
          refine iv_val ho (by obtain rfl := Option.some.inj ho; rfl) (.pointer (some ⟨go, j * 4, none⟩)) W ?_ (HKP.out listed 6 _ hs (by decide) (by decide) hB) (RR.refl _ _) rfl
          · intro q hq
            obtain rfl := Option.some.inj ho
            have e80 := hq.tmp 80
            simp at e80
            simp [execOp, e80, d80, go_sem]
        · have d81 : f 81 = .pointer (some ⟨go, j * 4, none⟩) := hdep ⟨6, .data⟩ (by obtain rfl := Option.some.inj ho; simp) rfl
          have hO' := hB.own.1
          rw [show listed.getD 26 false = false from (hcl.no (hcl.no (hcl.no hli 8 ⟨7, .data⟩ rfl rfl (by simp) rfl) 9 ⟨8, .data⟩ rfl rfl (by simp) rfl) 26 ⟨9, .data⟩ rfl rfl (by simp) rfl)] at hO'
          have hx0 : (ps.set j (cond false y0 kx, px, cond (listed.getD 29 false) y1 lx, cond (listed.getD 32 false) y2 bx))[j]? = some (cond false y0 kx, px, cond (listed.getD 29 false) y1 lx, cond (listed.getD 32 false) y2 bx) := List.getElem?_set_self hjn
          have y9 : W.cell? ⟨go, j * 4, none⟩ = some (.string kx) := (OwnR.cellf TPt.ok hO' (by simp) hx0 (fo := 0) rfl).1
          refine iv_val ho (by obtain rfl := Option.some.inj ho; rfl) (.string kx) W ?_ (HKP.out listed 7 _ hs (by decide) (by decide) hB) (RR.refl _ _) rfl
          · intro q hq
            obtain rfl := Option.some.inj ho
            have e81 := hq.tmp 81
            simp at e81
            simp [execOp, e81, d81, go_sem, y9]
        · have d82 : f 82 = .string kx := hdep ⟨7, .data⟩ (by obtain rfl := Option.some.inj ho; simp) rfl
          refine iv_val ho (by obtain rfl := Option.some.inj ho; rfl) (.slice (some ⟨W.heap.size, 0, none⟩) 3 3) (W.alloc (.cells #[.string kx, .string (⟨#[]⟩ : ByteArray), .string (⟨#[98]⟩ : ByteArray)] 9)) ?_ (HKP.out listed 8 _ hs (by decide) (by decide) (hB.below hK (Bl.alloc (Below.refl _ _) _))) (RR.of_below (Bl.alloc (Below.refl _ _) _)) ⟨⟨_, rfl⟩, RecR.of_blk (T := TS) (blk_new _ _) rfl rfl (by simp) (by omega) hB.size⟩
          · intro q hq
            obtain rfl := Option.some.inj ho
            have e82 := hq.tmp 82
            simp at e82
            simp [execOp, hq.const, e82, d82, go_sem]
        · have d78 : f 78 = .pointer (some ⟨s, 0, none⟩) := hdep ⟨3, .data⟩ (by obtain rfl := Option.some.inj ho; simp) rfl
          obtain ⟨⟨bi, d83⟩, hri⟩ : VLSx (w9.heap.size) [kx, (⟨#[]⟩ : ByteArray), (⟨#[98]⟩ : ByteArray)] (f 83) W := hdep ⟨8, .data⟩ (by obtain rfl := Option.some.inj ho; simp) rfl
          have l1 : listed.getD 16 false = false := (hcl.no hli 16 ⟨9, .chain⟩ rfl rfl (by simp) rfl)
          have l2 : listed.getD 23 false = false := (hcl.no (hcl.no hli 16 ⟨9, .chain⟩ rfl rfl (by simp) rfl) 23 ⟨16, .chain⟩ rfl rfl (by simp) rfl)
          rw [hli, l1, l2] at hB
          have hS : StrX W s li ((m8 + 1) + 0) := by simpa using hB.str
          refine iv_call ho (by obtain rfl := Option.some.inj ho; rfl) 34 #[.tmp 78, .tmp 83] _ (by obtain rfl := Option.some.inj ho; rfl) (enters_of Tryz.func34 (by kernel_rfl) rfl) #[.pointer (some ⟨s, 0, none⟩), f 83] (by intro q hq; have e78 := hq.tmp 78; simp at e78; have e83 := hq.tmp 83; simp at e83; simp [e78, e83, d78]) _ (HC1.out W (f 83) hS (Rd.mono hri (by omega))) ?_
          rintro e W' ⟨rfl, hs', hg'⟩
          have hN : BX (fun t0 t1 t2 W => OwnR TPt W B (.slice (some ⟨go, 0, none⟩) ps.length pcap) (ps.set j (cond t0 y0 kx, px, cond t1 y1 lx, cond t2 y2 bx)) ∧ (XK wb Kp W ∧ OwnR TAl W B (.slice aa l.length acap) l)) w0 s (w9.heap.size) li (m8 + 1) true false false (listed.getD 26 false) (listed.getD 29 false) (listed.getD 32 false) W' := hB.call hK (by simpa using hs') hg'
          refine ⟨_, rfl, ?_, RR.of_gr hg' (by omega), rfl⟩
          show BX (fun t0 t1 t2 W => OwnR TPt W B (.slice (some ⟨go, 0, none⟩) ps.length pcap) (ps.set j (cond t0 y0 kx, px, cond t1 y1 lx, cond t2 y2 bx)) ∧ (XK wb Kp W ∧ OwnR TAl W B (.slice aa l.length acap) l)) w0 s (w9.heap.size) li (m8 + 1) ((listed.setIfInBounds 9 true).getD 9 false) ((listed.setIfInBounds 9 true).getD 16 false) ((listed.setIfInBounds 9 true).getD 23 false) ((listed.setIfInBounds 9 true).getD 26 false) ((listed.setIfInBounds 9 true).getD 29 false) ((listed.setIfInBounds 9 true).getD 32 false) W'
          rw [gd_in hs (by decide), gd_out hs (by decide) (by decide), l1, gd_out hs (by decide) (by decide), l2, gd_out hs (by decide) (by decide), gd_out hs (by decide) (by decide), gd_out hs (by decide) (by decide)]
          exact hN
        · refine iv_val ho (by obtain rfl := Option.some.inj ho; rfl) (.pointer (some ⟨s, 0, none⟩)) W ?_ (HKP.out listed 10 _ hs (by decide) (by decide) hB) (RR.refl _ _) rfl
          · intro q hq
            obtain rfl := Option.some.inj ho
            have e0 := hq.tmp 0
            simp at e0
            simp [execOp, e0, go_sem]
        · refine iv_val ho (by obtain rfl := Option.some.inj ho; rfl) (.pointer (some ⟨go, j * 4, none⟩)) W ?_ (HKP.out listed 11 _ hs (by decide) (by decide) hB) (RR.refl _ _) rfl
          · intro q hq
            obtain rfl := Option.some.inj ho
            have e5 := hq.tmp 5
            simp at e5
            simp [execOp, e5, go_sem]
        · have d86 : f 86 = .pointer (some ⟨go, j * 4, none⟩) := hdep ⟨11, .data⟩ (by obtain rfl := Option.some.inj ho; simp) rfl
          refine iv_val ho (by obtain rfl := Option.some.inj ho; rfl) (.pointer (some ⟨go, j * 4, none⟩)) W ?_ (HKP.out listed 12 _ hs (by decide) (by decide) hB) (RR.refl _ _) rfl
          · intro q hq
            obtain rfl := Option.some.inj ho
            have e86 := hq.tmp 86
            simp at e86
            simp [execOp, e86, d86, go_sem]
        · have d87 : f 87 = .pointer (some ⟨go, j * 4, none⟩) := hdep ⟨12, .data⟩ (by obtain rfl := Option.some.inj ho; simp) rfl
          refine iv_val ho (by obtain rfl := Option.some.inj ho; rfl) (.pointer (some ⟨go, j * 4 + 2, none⟩)) W ?_ (HKP.out listed 13 _ hs (by decide) (by decide) hB) (RR.refl _ _) rfl
          · intro q hq
            obtain rfl := Option.some.inj ho
            have e87 := hq.tmp 87
            simp at e87
            simp [execOp, e87, d87, go_sem]
        · have d88 : f 88 = .pointer (some ⟨go, j * 4 + 2, none⟩) := hdep ⟨13, .data⟩ (by obtain rfl := Option.some.inj ho; simp) rfl
          have hO' := hB.own.1
          rw [show listed.getD 29 false = false from (hcl.no (hcl.no (hcl.no hli 15 ⟨14, .data⟩ rfl rfl (by simp) rfl) 16 ⟨15, .data⟩ rfl rfl (by simp) rfl) 29 ⟨16, .data⟩ rfl rfl (by simp) rfl)] at hO'
          have hx0 : (ps.set j (cond (listed.getD 26 false) y0 kx, px, cond false y1 lx, cond (listed.getD 32 false) y2 bx))[j]? = some (cond (listed.getD 26 false) y0 kx, px, cond false y1 lx, cond (listed.getD 32 false) y2 bx) := List.getElem?_set_self hjn
          have y9 : W.cell? ⟨go, j * 4 + 2, none⟩ = some (.int .i64 lx) := (OwnR.cellf TPt.ok hO' (by simp) hx0 (fo := 2) rfl).1
          refine iv_val ho (by obtain rfl := Option.some.inj ho; rfl) (.int .i64 lx) W ?_ (HKP.out listed 14 _ hs (by decide) (by decide) hB) (RR.refl _ _) rfl
          · intro q hq
            obtain rfl := Option.some.inj ho
            have e88 := hq.tmp 88
            simp at e88
            simp [execOp, e88, d88, go_sem, y9]
        · have d89 : f 89 = .int .i64 lx := hdep ⟨14, .data⟩ (by obtain rfl := Option.some.inj ho; simp) rfl
          refine iv_val ho (by obtain rfl := Option.some.inj ho; rfl) (.slice (some ⟨W.heap.size, 0, none⟩) 3 3) (W.alloc (.cells #[.int .i64 lx, .int .i64 (0 : Int), .int .i64 (7 : Int)] 3)) ?_ (HKP.out listed 15 _ hs (by decide) (by decide) (hB.below hK (Bl.alloc (Below.refl _ _) _))) (RR.of_below (Bl.alloc (Below.refl _ _) _)) ⟨⟨_, rfl⟩, Ints.of_blk (blk_new _ _) rfl rfl (by simp) (by omega) hB.size⟩
          · intro q hq
            obtain rfl := Option.some.inj ho
            have e89 := hq.tmp 89
            simp at e89
            simp [execOp, hq.const, e89, d89, go_sem]
        · have d85 : f 85 = .pointer (some ⟨s, 0, none⟩) := hdep ⟨10, .data⟩ (by obtain rfl := Option.some.inj ho; simp) rfl
          obtain ⟨⟨bi, d90⟩, hri⟩ : VLIx (w9.heap.size) [lx, (0 : Int), (7 : Int)] (f 90) W := hdep ⟨15, .data⟩ (by obtain rfl := Option.some.inj ho; simp) rfl
          have l0 : listed.getD 9 false = true := hdl ⟨9, .chain⟩ (by obtain rfl := Option.some.inj ho; simp) rfl
          have l2 : listed.getD 23 false = false := (hcl.no hli 23 ⟨16, .chain⟩ rfl rfl (by simp) rfl)
          rw [l0, hli, l2] at hB
          have hS : StrX W s li ((m8 + 1) + 1) := by simpa using hB.str
          refine iv_call ho (by obtain rfl := Option.some.inj ho; rfl) 35 #[.tmp 85, .tmp 90] _ (by obtain rfl := Option.some.inj ho; rfl) (enters_of Tryz.func35 (by kernel_rfl) rfl) #[.pointer (some ⟨s, 0, none⟩), f 90] (by intro q hq; have e85 := hq.tmp 85; simp at e85; have e90 := hq.tmp 90; simp at e90; simp [e85, e90, d85]) _ (HC2.out W (f 90) hS (Rd.mono hri (by omega))) ?_
          rintro e W' ⟨rfl, hs', hg'⟩
          have hN : BX (fun t0 t1 t2 W => OwnR TPt W B (.slice (some ⟨go, 0, none⟩) ps.length pcap) (ps.set j (cond t0 y0 kx, px, cond t1 y1 lx, cond t2 y2 bx)) ∧ (XK wb Kp W ∧ OwnR TAl W B (.slice aa l.length acap) l)) w0 s (w9.heap.size) li (m8 + 1) true true false (listed.getD 26 false) (listed.getD 29 false) (listed.getD 32 false) W' := hB.call hK (by simpa using hs') hg'
          refine ⟨_, rfl, ?_, RR.of_gr hg' (by omega), rfl⟩
          show BX (fun t0 t1 t2 W => OwnR TPt W B (.slice (some ⟨go, 0, none⟩) ps.length pcap) (ps.set j (cond t0 y0 kx, px, cond t1 y1 lx, cond t2 y2 bx)) ∧ (XK wb Kp W ∧ OwnR TAl W B (.slice aa l.length acap) l)) w0 s (w9.heap.size) li (m8 + 1) ((listed.setIfInBounds 16 true).getD 9 false) ((listed.setIfInBounds 16 true).getD 16 false) ((listed.setIfInBounds 16 true).getD 23 false) ((listed.setIfInBounds 16 true).getD 26 false) ((listed.setIfInBounds 16 true).getD 29 false) ((listed.setIfInBounds 16 true).getD 32 false) W'
          rw [gd_out hs (by decide) (by decide), l0, gd_in hs (by decide), gd_out hs (by decide) (by decide), l2, gd_out hs (by decide) (by decide), gd_out hs (by decide) (by decide), gd_out hs (by decide) (by decide)]
          exact hN
        · refine iv_val ho (by obtain rfl := Option.some.inj ho; rfl) (.pointer (some ⟨s, 0, none⟩)) W ?_ (HKP.out listed 17 _ hs (by decide) (by decide) hB) (RR.refl _ _) rfl
          · intro q hq
            obtain rfl := Option.some.inj ho
            have e0 := hq.tmp 0
            simp at e0
            simp [execOp, e0, go_sem]
        · refine iv_val ho (by obtain rfl := Option.some.inj ho; rfl) (.pointer (some ⟨go, j * 4, none⟩)) W ?_ (HKP.out listed 18 _ hs (by decide) (by decide) hB) (RR.refl _ _) rfl
          · intro q hq
            obtain rfl := Option.some.inj ho
            have e5 := hq.tmp 5
            simp at e5
            simp [execOp, e5, go_sem]
        · have d93 : f 93 = .pointer (some ⟨go, j * 4, none⟩) := hdep ⟨18, .data⟩ (by obtain rfl := Option.some.inj ho; simp) rfl
          refine iv_val ho (by obtain rfl := Option.some.inj ho; rfl) (.pointer (some ⟨go, j * 4, none⟩)) W ?_ (HKP.out listed 19 _ hs (by decide) (by decide) hB) (RR.refl _ _) rfl
          · intro q hq
            obtain rfl := Option.some.inj ho
            have e93 := hq.tmp 93
            simp at e93
            simp [execOp, e93, d93, go_sem]
        · have d94 : f 94 = .pointer (some ⟨go, j * 4, none⟩) := hdep ⟨19, .data⟩ (by obtain rfl := Option.some.inj ho; simp) rfl
          refine iv_val ho (by obtain rfl := Option.some.inj ho; rfl) (.pointer (some ⟨go, j * 4 + 3, none⟩)) W ?_ (HKP.out listed 20 _ hs (by decide) (by decide) hB) (RR.refl _ _) rfl
          · intro q hq
            obtain rfl := Option.some.inj ho
            have e94 := hq.tmp 94
            simp at e94
            simp [execOp, e94, d94, go_sem]
        · have d95 : f 95 = .pointer (some ⟨go, j * 4 + 3, none⟩) := hdep ⟨20, .data⟩ (by obtain rfl := Option.some.inj ho; simp) rfl
          have hO' := hB.own.1
          rw [show listed.getD 32 false = false from (hcl.no (hcl.no (hcl.no hli 22 ⟨21, .data⟩ rfl rfl (by simp) rfl) 23 ⟨22, .data⟩ rfl rfl (by simp) rfl) 32 ⟨23, .data⟩ rfl rfl (by simp) rfl)] at hO'
          have hx0 : (ps.set j (cond (listed.getD 26 false) y0 kx, px, cond (listed.getD 29 false) y1 lx, cond false y2 bx))[j]? = some (cond (listed.getD 26 false) y0 kx, px, cond (listed.getD 29 false) y1 lx, cond false y2 bx) := List.getElem?_set_self hjn
          have y9 : W.cell? ⟨go, j * 4 + 3, none⟩ = some (.int .i64 bx) := (OwnR.cellf TPt.ok hO' (by simp) hx0 (fo := 3) rfl).1
          refine iv_val ho (by obtain rfl := Option.some.inj ho; rfl) (.int .i64 bx) W ?_ (HKP.out listed 21 _ hs (by decide) (by decide) hB) (RR.refl _ _) rfl
          · intro q hq
            obtain rfl := Option.some.inj ho
            have e95 := hq.tmp 95
            simp at e95
            simp [execOp, e95, d95, go_sem, y9]
        · have d96 : f 96 = .int .i64 bx := hdep ⟨21, .data⟩ (by obtain rfl := Option.some.inj ho; simp) rfl
          refine iv_val ho (by obtain rfl := Option.some.inj ho; rfl) (.slice (some ⟨W.heap.size, 0, none⟩) 3 3) (W.alloc (.cells #[.int .i64 bx, .int .i64 (-1 : Int), .int .i64 (720000001 : Int)] 3)) ?_ (HKP.out listed 22 _ hs (by decide) (by decide) (hB.below hK (Bl.alloc (Below.refl _ _) _))) (RR.of_below (Bl.alloc (Below.refl _ _) _)) ⟨⟨_, rfl⟩, Ints.of_blk (blk_new _ _) rfl rfl (by simp) (by omega) hB.size⟩
          · intro q hq
            obtain rfl := Option.some.inj ho
            have e96 := hq.tmp 96
            simp at e96
            simp [execOp, hq.const, e96, d96, go_sem]
        · have d92 : f 92 = .pointer (some ⟨s, 0, none⟩) := hdep ⟨17, .data⟩ (by obtain rfl := Option.some.inj ho; simp) rfl
          obtain ⟨⟨bi, d97⟩, hri⟩ : VLIx (w9.heap.size) [bx, (-1 : Int), (720000001 : Int)] (f 97) W := hdep ⟨22, .data⟩ (by obtain rfl := Option.some.inj ho; simp) rfl
          have l1 : listed.getD 16 false = true := hdl ⟨16, .chain⟩ (by obtain rfl := Option.some.inj ho; simp) rfl
          have l0 : listed.getD 9 false = true := hcl 16 _ rfl l1 ⟨9, .chain⟩ (by simp) rfl
          rw [l0, l1, hli] at hB
          have hS : StrX W s li ((m8 + 1) + 2) := by simpa using hB.str
          refine iv_call ho (by obtain rfl := Option.some.inj ho; rfl) 35 #[.tmp 92, .tmp 97] _ (by obtain rfl := Option.some.inj ho; rfl) (enters_of Tryz.func35 (by kernel_rfl) rfl) #[.pointer (some ⟨s, 0, none⟩), f 97] (by intro q hq; have e92 := hq.tmp 92; simp at e92; have e97 := hq.tmp 97; simp at e97; simp [e92, e97, d92]) _ (HC3.out W (f 97) hS (Rd.mono hri (by omega))) ?_
          rintro e W' ⟨rfl, hs', hg'⟩
          have hN : BX (fun t0 t1 t2 W => OwnR TPt W B (.slice (some ⟨go, 0, none⟩) ps.length pcap) (ps.set j (cond t0 y0 kx, px, cond t1 y1 lx, cond t2 y2 bx)) ∧ (XK wb Kp W ∧ OwnR TAl W B (.slice aa l.length acap) l)) w0 s (w9.heap.size) li (m8 + 1) true true true (listed.getD 26 false) (listed.getD 29 false) (listed.getD 32 false) W' := hB.call hK (by simpa using hs') hg'
          refine ⟨_, rfl, ?_, RR.of_gr hg' (by omega), rfl⟩
          show BX (fun t0 t1 t2 W => OwnR TPt W B (.slice (some ⟨go, 0, none⟩) ps.length pcap) (ps.set j (cond t0 y0 kx, px, cond t1 y1 lx, cond t2 y2 bx)) ∧ (XK wb Kp W ∧ OwnR TAl W B (.slice aa l.length acap) l)) w0 s (w9.heap.size) li (m8 + 1) ((listed.setIfInBounds 23 true).getD 9 false) ((listed.setIfInBounds 23 true).getD 16 false) ((listed.setIfInBounds 23 true).getD 23 false) ((listed.setIfInBounds 23 true).getD 26 false) ((listed.setIfInBounds 23 true).getD 29 false) ((listed.setIfInBounds 23 true).getD 32 false) W'
          rw [gd_out hs (by decide) (by decide), l0, gd_out hs (by decide) (by decide), l1, gd_in hs (by decide), gd_out hs (by decide) (by decide), gd_out hs (by decide) (by decide), gd_out hs (by decide) (by decide)]
          exact hN
        · have d75 : f 75 = .pointer (some ⟨go, j * 4, none⟩) := hdep ⟨0, .data⟩ (by obtain rfl := Option.some.inj ho; simp) rfl
          refine iv_val ho (by obtain rfl := Option.some.inj ho; rfl) (.pointer (some ⟨go, j * 4, none⟩)) W ?_ (HKP.out listed 24 _ hs (by decide) (by decide) hB) (RR.refl _ _) rfl
          · intro q hq
            obtain rfl := Option.some.inj ho
            have e75 := hq.tmp 75
            simp at e75
            simp [execOp, e75, d75, go_sem]
        · have d99 : f 99 = .pointer (some ⟨go, j * 4, none⟩) := hdep ⟨24, .data⟩ (by obtain rfl := Option.some.inj ho; simp) rfl
          refine iv_val ho (by obtain rfl := Option.some.inj ho; rfl) (.pointer (some ⟨go, j * 4, none⟩)) W ?_ (HKP.out listed 25 _ hs (by decide) (by decide) hB) (RR.refl _ _) rfl
          · intro q hq
            obtain rfl := Option.some.inj ho
            have e99 := hq.tmp 99
            simp at e99
            simp [execOp, e99, d99, go_sem]
        · have d100 : f 100 = .pointer (some ⟨go, j * 4, none⟩) := hdep ⟨25, .data⟩ (by obtain rfl := Option.some.inj ho; simp) rfl
          have d84 : f 84 = .string y0 := hdep ⟨9, .data⟩ (by obtain rfl := Option.some.inj ho; simp) rfl
          have hB0 := hB
          rw [hli] at hB
          obtain ⟨hO', hx'⟩ := hB.own
          have hx0 : (ps.set j (cond false y0 kx, px, cond (listed.getD 29 false) y1 lx, cond (listed.getD 32 false) y2 bx))[j]? = some (cond false y0 kx, px, cond (listed.getD 29 false) y1 lx, cond (listed.getD 32 false) y2 bx) := List.getElem?_set_self hjn
          obtain ⟨y9, g9⟩ := OwnR.cellf TPt.ok hO' (by simp) hx0 (fo := 0) rfl
          replace y9 : W.cell? ⟨go, j * 4, none⟩ = some (.string kx) := y9
          replace g9 : W.frozen? ⟨go, j * 4, none⟩ = false := g9
          have hO2 : OwnR TPt (W.setCell ⟨go, j * 4, none⟩ (.string y0)) B (.slice (some ⟨go, 0, none⟩) ps.length pcap) ((ps.set j (cond false y0 kx, px, cond (listed.getD 29 false) y1 lx, cond (listed.getD 32 false) y2 bx)).set j (cond true y0 kx, px, cond (listed.getD 29 false) y1 lx, cond (listed.getD 32 false) y2 bx)) := OwnR.setf TPt.ok hO' (by simp) hx0 (fo := 0) (by decide) rfl
          rw [List.set_set] at hO2
          have hN : BX (fun t0 t1 t2 W => OwnR TPt W B (.slice (some ⟨go, 0, none⟩) ps.length pcap) (ps.set j (cond t0 y0 kx, px, cond t1 y1 lx, cond t2 y2 bx)) ∧ (XK wb Kp W ∧ OwnR TAl W B (.slice aa l.length acap) l)) w0 s (w9.heap.size) li (m8 + 1) (listed.getD 9 false) (listed.getD 16 false) (listed.getD 23 false) true (listed.getD 29 false) (listed.getD 32 false) (W.setCell ⟨go, j * 4, none⟩ (.string y0)) := hB.store (by omega) (by omega) ⟨hO2, HXS.out W _ _ hx'⟩
          have hN2 : BX (fun t0 t1 t2 W => OwnR TPt W B (.slice (some ⟨go, 0, none⟩) ps.length pcap) (ps.set j (cond t0 y0 kx, px, cond t1 y1 lx, cond t2 y2 bx)) ∧ (XK wb Kp W ∧ OwnR TAl W B (.slice aa l.length acap) l)) w0 s (w9.heap.size) li (m8 + 1) ((listed.setIfInBounds 26 true).getD 9 false) ((listed.setIfInBounds 26 true).getD 16 false) ((listed.setIfInBounds 26 true).getD 23 false) ((listed.setIfInBounds 26 true).getD 26 false) ((listed.setIfInBounds 26 true).getD 29 false) ((listed.setIfInBounds 26 true).getD 32 false) (W.setCell ⟨go, j * 4, none⟩ (.string y0)) := by rw [gd_out hs (by decide) (by decide), gd_out hs (by decide) (by decide), gd_out hs (by decide) (by decide), gd_in hs (by decide), gd_out hs (by decide) (by decide), gd_out hs (by decide) (by decide)]; exact hN
          refine iv_skip ho (by obtain rfl := Option.some.inj ho; rfl) (by obtain rfl := Option.some.inj ho; rfl) (W.setCell ⟨go, j * 4, none⟩ (.string y0)) ?_ hN2 ⟨by simp, fun i h1 h2 => Below.heap_setCell _ _ _ _ (by show i ≠ go; omega)⟩ trivial
          · intro q hq
            obtain rfl := Option.some.inj ho
            have e84 := hq.tmp 84
            have e100 := hq.tmp 100
            simp at e84 e100
            simp [execOp, e84, e100, d84, d100, go_sem, y9, g9]
        · have d76 : f 76 = .pointer (some ⟨go, j * 4, none⟩) := hdep ⟨1, .data⟩ (by obtain rfl := Option.some.inj ho; simp) rfl
          refine iv_val ho (by obtain rfl := Option.some.inj ho; rfl) (.pointer (some ⟨go, j * 4, none⟩)) W ?_ (HKP.out listed 27 _ hs (by decide) (by decide) hB) (RR.refl _ _) rfl
          · intro q hq
            obtain rfl := Option.some.inj ho
            have e76 := hq.tmp 76
            simp at e76
            simp [execOp, e76, d76, go_sem]
        · have d101 : f 101 = .pointer (some ⟨go, j * 4, none⟩) := hdep ⟨27, .data⟩ (by obtain rfl := Option.some.inj ho; simp) rfl
          refine iv_val ho (by obtain rfl := Option.some.inj ho; rfl) (.pointer (some ⟨go, j * 4 + 2, none⟩)) W ?_ (HKP.out listed 28 _ hs (by decide) (by decide) hB) (RR.refl _ _) rfl
          · intro q hq
            obtain rfl := Option.some.inj ho
            have e101 := hq.tmp 101
            simp at e101
            simp [execOp, e101, d101, go_sem]
        · have d102 : f 102 = .pointer (some ⟨go, j * 4 + 2, none⟩) := hdep ⟨28, .data⟩ (by obtain rfl := Option.some.inj ho; simp) rfl
          have d91 : f 91 = .int .i64 y1 := hdep ⟨16, .data⟩ (by obtain rfl := Option.some.inj ho; simp) rfl
          have hB0 := hB
          rw [hli] at hB
          obtain ⟨hO', hx'⟩ := hB.own
          have hx0 : (ps.set j (cond (listed.getD 26 false) y0 kx, px, cond false y1 lx, cond (listed.getD 32 false) y2 bx))[j]? = some (cond (listed.getD 26 false) y0 kx, px, cond false y1 lx, cond (listed.getD 32 false) y2 bx) := List.getElem?_set_self hjn
          obtain ⟨y9, g9⟩ := OwnR.cellf TPt.ok hO' (by simp) hx0 (fo := 2) rfl
          replace y9 : W.cell? ⟨go, j * 4 + 2, none⟩ = some (.int .i64 lx) := y9
          replace g9 : W.frozen? ⟨go, j * 4 + 2, none⟩ = false := g9
          have hO2 : OwnR TPt (W.setCell ⟨go, j * 4 + 2, none⟩ (.int .i64 y1)) B (.slice (some ⟨go, 0, none⟩) ps.length pcap) ((ps.set j (cond (listed.getD 26 false) y0 kx, px, cond false y1 lx, cond (listed.getD 32 false) y2 bx)).set j (cond (listed.getD 26 false) y0 kx, px, cond true y1 lx, cond (listed.getD 32 false) y2 bx)) := OwnR.setf TPt.ok hO' (by simp) hx0 (fo := 2) (by decide) rfl
          rw [List.set_set] at hO2
          have hN : BX (fun t0 t1 t2 W => OwnR TPt W B (.slice (some ⟨go, 0, none⟩) ps.length pcap) (ps.set j (cond t0 y0 kx, px, cond t1 y1 lx, cond t2 y2 bx)) ∧ (XK wb Kp W ∧ OwnR TAl W B (.slice aa l.length acap) l)) w0 s (w9.heap.size) li (m8 + 1) (listed.getD 9 false) (listed.getD 16 false) (listed.getD 23 false) (listed.getD 26 false) true (listed.getD 32 false) (W.setCell ⟨go, j * 4 + 2, none⟩ (.int .i64 y1)) := hB.store (by omega) (by omega) ⟨hO2, HXS.out W _ _ hx'⟩
          have hN2 : BX (fun t0 t1 t2 W => OwnR TPt W B (.slice (some ⟨go, 0, none⟩) ps.length pcap) (ps.set j (cond t0 y0 kx, px, cond t1 y1 lx, cond t2 y2 bx)) ∧ (XK wb Kp W ∧ OwnR TAl W B (.slice aa l.length acap) l)) w0 s (w9.heap.size) li (m8 + 1) ((listed.setIfInBounds 29 true).getD 9 false) ((listed.setIfInBounds 29 true).getD 16 false) ((listed.setIfInBounds 29 true).getD 23 false) ((listed.setIfInBounds 29 true).getD 26 false) ((listed.setIfInBounds 29 true).getD 29 false) ((listed.setIfInBounds 29 true).getD 32 false) (W.setCell ⟨go, j * 4 + 2, none⟩ (.int .i64 y1)) := by rw [gd_out hs (by decide) (by decide), gd_out hs (by decide) (by decide), gd_out hs (by decide) (by decide), gd_out hs (by decide) (by decide), gd_in hs (by decide), gd_out hs (by decide) (by decide)]; exact hN
          refine iv_skip ho (by obtain rfl := Option.some.inj ho; rfl) (by obtain rfl := Option.some.inj ho; rfl) (W.setCell ⟨go, j * 4 + 2, none⟩ (.int .i64 y1)) ?_ hN2 ⟨by simp, fun i h1 h2 => Below.heap_setCell _ _ _ _ (by show i ≠ go; omega)⟩ trivial
          · intro q hq
            obtain rfl := Option.some.inj ho
            have e91 := hq.tmp 91
            have e102 := hq.tmp 102
            simp at e91 e102
            simp [execOp, e91, e102, d91, d102, go_sem, y9, g9]
        · have d77 : f 77 = .pointer (some ⟨go, j * 4, none⟩) := hdep ⟨2, .data⟩ (by obtain rfl := Option.some.inj ho; simp) rfl
          refine iv_val ho (by obtain rfl := Option.some.inj ho; rfl) (.pointer (some ⟨go, j * 4, none⟩)) W ?_ (HKP.out listed 30 _ hs (by decide) (by decide) hB) (RR.refl _ _) rfl
          · intro q hq
            obtain rfl := Option.some.inj ho
            have e77 := hq.tmp 77
            simp at e77
            simp [execOp, e77, d77, go_sem]
        · have d103 : f 103 = .pointer (some ⟨go, j * 4, none⟩) := hdep ⟨30, .data⟩ (by obtain rfl := Option.some.inj ho; simp) rfl
          refine iv_val ho (by obtain rfl := Option.some.inj ho; rfl) (.pointer (some ⟨go, j * 4 + 3, none⟩)) W ?_ (HKP.out listed 31 _ hs (by decide) (by decide) hB) (RR.refl _ _) rfl
          · intro q hq
            obtain rfl := Option.some.inj ho
            have e103 := hq.tmp 103
            simp at e103
            simp [execOp, e103, d103, go_sem]
        · have d104 : f 104 = .pointer (some ⟨go, j * 4 + 3, none⟩) := hdep ⟨31, .data⟩ (by obtain rfl := Option.some.inj ho; simp) rfl
          have d98 : f 98 = .int .i64 y2 := hdep ⟨23, .data⟩ (by obtain rfl := Option.some.inj ho; simp) rfl
          have hB0 := hB
          rw [hli] at hB
          obtain ⟨hO', hx'⟩ := hB.own
          have hx0 : (ps.set j (cond (listed.getD 26 false) y0 kx, px, cond (listed.getD 29 false) y1 lx, cond false y2 bx))[j]? = some (cond (listed.getD 26 false) y0 kx, px, cond (listed.getD 29 false) y1 lx, cond false y2 bx) := List.getElem?_set_self hjn
          obtain ⟨y9, g9⟩ := OwnR.cellf TPt.ok hO' (by simp) hx0 (fo := 3) rfl
          replace y9 : W.cell? ⟨go, j * 4 + 3, none⟩ = some (.int .i64 bx) := y9
          replace g9 : W.frozen? ⟨go, j * 4 + 3, none⟩ = false := g9
          have hO2 : OwnR TPt (W.setCell ⟨go, j * 4 + 3, none⟩ (.int .i64 y2)) B (.slice (some ⟨go, 0, none⟩) ps.length pcap) ((ps.set j (cond (listed.getD 26 false) y0 kx, px, cond (listed.getD 29 false) y1 lx, cond false y2 bx)).set j (cond (listed.getD 26 false) y0 kx, px, cond (listed.getD 29 false) y1 lx, cond true y2 bx)) := OwnR.setf TPt.ok hO' (by simp) hx0 (fo := 3) (by decide) rfl
          rw [List.set_set] at hO2
          have hN : BX (fun t0 t1 t2 W => OwnR TPt W B (.slice (some ⟨go, 0, none⟩) ps.length pcap) (ps.set j (cond t0 y0 kx, px, cond t1 y1 lx, cond t2 y2 bx)) ∧ (XK wb Kp W ∧ OwnR TAl W B (.slice aa l.length acap) l)) w0 s (w9.heap.size) li (m8 + 1) (listed.getD 9 false) (listed.getD 16 false) (listed.getD 23 false) (listed.getD 26 false) (listed.getD 29 false) true (W.setCell ⟨go, j * 4 + 3, none⟩ (.int .i64 y2)) := hB.store (by omega) (by omega) ⟨hO2, HXS.out W _ _ hx'⟩
          have hN2 : BX (fun t0 t1 t2 W => OwnR TPt W B (.slice (some ⟨go, 0, none⟩) ps.length pcap) (ps.set j (cond t0 y0 kx, px, cond t1 y1 lx, cond t2 y2 bx)) ∧ (XK wb Kp W ∧ OwnR TAl W B (.slice aa l.length acap) l)) w0 s (w9.heap.size) li (m8 + 1) ((listed.setIfInBounds 32 true).getD 9 false) ((listed.setIfInBounds 32 true).getD 16 false) ((listed.setIfInBounds 32 true).getD 23 false) ((listed.setIfInBounds 32 true).getD 26 false) ((listed.setIfInBounds 32 true).getD 29 false) ((listed.setIfInBounds 32 true).getD 32 false) (W.setCell ⟨go, j * 4 + 3, none⟩ (.int .i64 y2)) := by rw [gd_out hs (by decide) (by decide), gd_out hs (by decide) (by decide), gd_out hs (by decide) (by decide), gd_out hs (by decide) (by decide), gd_out hs (by decide) (by decide), gd_in hs (by decide)]; exact hN
          refine iv_skip ho (by obtain rfl := Option.some.inj ho; rfl) (by obtain rfl := Option.some.inj ho; rfl) (W.setCell ⟨go, j * 4 + 3, none⟩ (.int .i64 y2)) ?_ hN2 ⟨by simp, fun i h1 h2 => Below.heap_setCell _ _ _ _ (by show i ≠ go; omega)⟩ trivial
          · intro q hq
            obtain rfl := Option.some.inj ho
            have e98 := hq.tmp 98
            have e104 := hq.tmp 104
            simp at e98 e104
            simp [execOp, e98, e104, d98, d104, go_sem, y9, g9]
      intro listed f wz hall hB' hV
      replace hB' : BX (fun t0 t1 t2 W => OwnR TPt W B (.slice (some ⟨go, 0, none⟩) ps.length pcap) (ps.set j (cond t0 y0 kx, px, cond t1 y1 lx, cond t2 y2 bx)) ∧ (XK wb Kp W ∧ OwnR TAl W B (.slice aa l.length acap) l)) w0 s (w9.heap.size) li (m8 + 1) (listed.getD 9 false) (listed.getD 16 false) (listed.getD 23 false) (listed.getD 26 false) (listed.getD 29 false) (listed.getD 32 false) wz := hB'
      rw [show listed.getD 9 false = true from hall 9 (by decide), show listed.getD 16 false = true from hall 16 (by decide), show listed.getD 23 false = true from hall 23 (by decide), show listed.getD 26 false = true from hall 26 (by decide), show listed.getD 29 false = true from hall 29 (by decide), show listed.getD 32 false = true from hall 32 (by decide)] at hB'
      unfold putsA
      simp only [List.mapIdx_toArray, List.mapIdx_cons, List.mapIdx_nil, List.contains_cons]
      simp
      obtain ⟨hSz, ⟨hOz, hXz⟩, _, hGz⟩ := hB'
      have HF := Lib.hid (show OwnR TPt wz B (.slice (some ⟨go, 0, none⟩) ps.length pcap) SX.1 ∧ OwnR TAl wz B (.slice aa l.length acap) SX.2.1 ∧ XK wb Kp wz ∧ StrX wz s li SX.2.2 ∧ w0.grownBy wz (some s) from by
        rw [HSX.out, HR.out, spP_at HJX.out.1 HJX.out.2]
        obtain ⟨e0, e1, e2⟩ := HY.out
        rw [e0, e1, e2] at hOz
        exact ⟨hOz, hXz.2, hXz.1, hSz, hGz⟩)
      clear hSz hOz hGz hXz hV hK hO9' hS9 hG9 hall
      go_wp2
      go_end0
      exact ⟨rfl, HF.out.1, HF.out.2.1, HF.out.2.2.1, HF.out.2.2.2.1, HF.out.2.2.2.2⟩
  · have h0' : (0 : Int) < (l.length : Int) := by omega
    obtain ⟨fl, hfl⟩ : ∃ q, q = flX li m 2 := ⟨_, rfl⟩
    have HFL0 := Flip_x s m li 2 w h (by omega) (by omega)
    rw [← hfl] at HFL0
    have HFL := Lib.hid HFL0
    have HFE := Lib.hid hfl
    clear HFL0 hfl
    go_wp2_with fail
    refine HFL.out.mono ?_
    rintro e w8 ⟨rfl, hS8, hG⟩
    have hX8 := hX1.gr HKP9.out hG
    have hp8 := hp.grown hG (by omega)
    have ha8 := ha.grown hG (by omega)
    have hG8 := Gr.trans h0g hG
    obtain ⟨cd0, cd1, lC⟩ := HCC.out w8 hX8
    obtain ⟨m8, hm8⟩ : ∃ m8, m8 = m + 1 := ⟨_, rfl⟩
    rw [← hm8] at hS8
    have hm9 : m8 ≤ 900001 := by omega
    have HM8 := Lib.hid hm8
    clear h hp ha hG hX1 h0g HFL hm8
    cases fl
    · have HR : Hid (spoilX li m ps l = ((spP li m8 ps).1, l, (spP li m8 ps).2)) := Lib.hid (by rw [HM8.out]; exact spoilX_p h0 HFE.out.symm)
      have hq0 := h0
      clear h0
      by_cases h0 : ps.length = 0
      · have h1' : ¬ (0 : Int) < (ps.length : Int) := by omega
        have HF := Lib.hid (show OwnR TPt w8 B (.slice pa ps.length pcap) SX.1 ∧ OwnR TAl w8 B (.slice aa l.length acap) SX.2.1 ∧ XK wb Kp w8 ∧ StrX w8 s li SX.2.2 ∧ w0.grownBy w8 (some s) from by
          rw [HSX.out, HR.out, spP_none h0]
          exact ⟨hp8, ha8, hX8, hS8, hG8⟩)
        have HQ0 := Lib.hid (And.intro hq0 h0)
        clear hX8 hS8 hG8 hp8 ha8
        go_wp2
        go_end0
        exact ⟨rfl, (by have hh := HF.out.1; first | exact hh | (rw [HQ0.out.2] at hh; exact hh)), (by have hh := HF.out.2.1; first | exact hh | (rw [HQ0.out.1] at hh; exact hh)), HF.out.2.2.1, HF.out.2.2.2.1, HF.out.2.2.2.2⟩
      · have h1' : (0 : Int) < (ps.length : Int) := by omega
        go_wp2_with fail
        have hne : ps ≠ [] := fun e => h0 (by rw [e]; rfl)
        obtain ⟨go, cap, cur, hoa, hgo, hgb, _, _⟩ := hp8.blk hne
        injection hoa with hoa1 _ hoa2
        subst hoa1 hoa2
        have HOTY : Hid (∀ k, (Value.slice aa l.length acap).ownBlock = some k → k ≠ go) := Lib.hid fun k hk e => by
          subst e
          obtain ⟨_, c1, h1⟩ := (ownR_k TAl B).blk ha8 hk
          rw [hgb] at h1
          injection h1 with h1
          injection h1 with _ e2 _
          exact absurd e2 (by decide)
        clear hgb
        have ls8 := hS8.lt
        have hsg : s < go := by omega
        obtain ⟨j, hj⟩ : ∃ j, j = (nxX li m8 ps.length).toNat := ⟨_, rfl⟩
        obtain ⟨hj1, hj2⟩ := nxX_rng li m8 ps.length
        have hjI : ((j : Nat) : Int) = nxX li m8 ps.length := by rw [hj]; omega
        have hjn : j < ps.length := by omega
        obtain ⟨x, hx⟩ : ∃ x, ps[j]? = some x := ⟨_, List.getElem?_eq_getElem hjn⟩
        obtain ⟨kx, px, lx, bx⟩ := x
        have HJX := Lib.hid (And.intro hj hx)
        have HC0 : Hid (∀ W, StrX W s li (m8 + 0) → Calls Tryz.prog 23 #[.pointer (some ⟨s, 0, none⟩), .int .i64 ps.length] W fun e w' => e = .returned (.int .i64 j) ∧ StrX w' s li (m8 + 0 + 1) ∧ W.grownBy w' (some s)) := Lib.hid fun W hS => by
          rw [hjI]
          exact Next_x s m8 li _ W hS (by omega) (by omega)
        have HXC : Hid (∀ W, (XK wb Kp W ∧ OwnR TAl W B (.slice aa l.length acap) l) → ∀ W', Below W.heap.size W W' → (XK wb Kp W' ∧ OwnR TAl W' B (.slice aa l.length acap) l)) := Lib.hid fun W hW W' hb => ⟨hW.1.below HKP9.out hb, hW.2.below hb⟩
        have HXG : Hid (∀ W, (XK wb Kp W ∧ OwnR TAl W B (.slice aa l.length acap) l) → ∀ W', W.grownBy W' (some s) → (XK wb Kp W' ∧ OwnR TAl W' B (.slice aa l.length acap) l)) := Lib.hid fun W hW W' hb => ⟨hW.1.gr HKP9.out hb, hW.2.grown hb (by omega)⟩
        have hK : ∀ a b c : Bool, OwnK ((fun _ _ _ W => OwnR TPt W B (.slice (some ⟨go, 0, none⟩) ps.length pcap) ps ∧ (XK wb Kp W ∧ OwnR TAl W B (.slice aa l.length acap) l) : Bool → Bool → Bool → World → Prop) a b c) s := fun _ _ _ => ⟨fun W W' h hb => ⟨h.1.below hb, HXC.out W h.2 W' hb⟩, fun W W' h hg => ⟨h.1.grown hg (by omega), HXG.out W h.2 W' hg⟩⟩
        have HKP : Hid (∀ (listed : Array Bool) (i : Nat) (W : World), listed.size = 13 → i < 13 → i ∉ ([10] : List Nat) → BX (fun _ _ _ W => OwnR TPt W B (.slice (some ⟨go, 0, none⟩) ps.length pcap) ps ∧ (XK wb Kp W ∧ OwnR TAl W B (.slice aa l.length acap) l)) w0 s (w8.heap.size) li m8 (listed.getD 10 false) false false false false false W → BX (fun _ _ _ W => OwnR TPt W B (.slice (some ⟨go, 0, none⟩) ps.length pcap) ps ∧ (XK wb Kp W ∧ OwnR TAl W B (.slice aa l.length acap) l)) w0 s (w8.heap.size) li m8 ((listed.setIfInBounds i true).getD 10 false) false false false false false W) := Lib.hid fun listed i W hs hi hn h => by
          rw [gd_out hs hi (fun e => hn (by rw [← e]; decide))]
          exact h
        refine wp_region_sx (by kernel_rfl) [63, 64, 65, 66, 67, 68, 69, 70, 71, 72, 73, 74, 5] (fun (listed : Array Bool) (W : World) => BX (fun _ _ _ W => OwnR TPt W B (.slice (some ⟨go, 0, none⟩) ps.length pcap) ps ∧ (XK wb Kp W ∧ OwnR TAl W B (.slice aa l.length acap) l)) w0 s (w8.heap.size) li m8 (listed.getD 10 false) false false false false false W) (RR (w8.heap.size)) (fun i => [VE (.pointer (some ⟨C, 0, none⟩)), VE (.pointer (some ⟨C, 0, none⟩)), VE (.pointer (some ⟨C, 0, none⟩)), VE (.slice (some ⟨go, 0, none⟩) ps.length pcap), VE (.pointer (some ⟨s, 0, none⟩)), VE (.pointer (some ⟨C, 0, none⟩)), VE (.pointer (some ⟨C, 0, none⟩)), VE (.pointer (some ⟨C, 0, none⟩)), VE (.slice (some ⟨go, 0, none⟩) ps.length pcap), VE (.int .i64 ps.length), VE (.int .i64 j), VE (.pointer (some ⟨go, j * 4, none⟩)), VE (.pointer (some ⟨go, j * 4, none⟩))].getD i VT) (by kernel_rfl) (by kernel_rfl) ?_ ?_ ?_ ?_ ?_
        · simp only [gd_start]
          exact ⟨by simpa using hS8.drew, ⟨hp8, ⟨hX8, ha8⟩⟩, Nat.le_refl _, ⟨hG8.os, hG8.tape, hG8.output, hG8.size, hG8.block⟩⟩
        · intro listed W W' i v hB hR hV
          exact match i, hV with
            | 0, h => h
            | 1, h => h
            | 2, h => h
            | 3, h => h
            | 4, h => h
            | 5, h => h
            | 6, h => h
            | 7, h => h
            | 8, h => h
            | 9, h => h
            | 10, h => h
            | 11, h => h
            | 12, h => h
            | (_ + 13), _ => trivial
        · intro i o v W ho hd
          match i, ho with
            | 0, ho => (obtain rfl := Option.some.inj ho; cases hd)
            | 1, ho => (obtain rfl := Option.some.inj ho; cases hd)
            | 2, ho => (obtain rfl := Option.some.inj ho; cases hd)
            | 3, ho => (obtain rfl := Option.some.inj ho; cases hd)
            | 4, ho => (obtain rfl := Option.some.inj ho; cases hd)
            | 5, ho => (obtain rfl := Option.some.inj ho; cases hd)
            | 6, ho => (obtain rfl := Option.some.inj ho; cases hd)
            | 7, ho => (obtain rfl := Option.some.inj ho; cases hd)
            | 8, ho => (obtain rfl := Option.some.inj ho; cases hd)
            | 9, ho => (obtain rfl := Option.some.inj ho; cases hd)
            | 10, ho => (obtain rfl := Option.some.inj ho; cases hd)
            | 11, ho => (obtain rfl := Option.some.inj ho; cases hd)
            | 12, ho => (obtain rfl := Option.some.inj ho; cases hd)
            | (_ + 13), _ => trivial
        · intro listed i o f W ho hi hs hli hcl hdl hB hdep
          replace hs : listed.size = 13 := hs
          replace hB : BX (fun _ _ _ W => OwnR TPt W B (.slice (some ⟨go, 0, none⟩) ps.length pcap) ps ∧ (XK wb Kp W ∧ OwnR TAl W B (.slice aa l.length acap) l)) w0 s (w8.heap.size) li m8 (listed.getD 10 false) false false false false false W := hB
          have hi' : i = 0 ∨ i = 1 ∨ i = 2 ∨ i = 3 ∨ i = 4 ∨ i = 5 ∨ i = 6 ∨ i = 7 ∨ i = 8 ∨ i = 9 ∨ i = 10 ∨ i = 11 ∨ i = 12 := by
            have : i < 13 := hi
            omega
          rcases hi' with rfl | rfl | rfl | rfl | rfl | rfl | rfl | rfl | rfl | rfl | rfl | rfl | rfl
          · refine iv_val ho (by obtain rfl := Option.some.inj ho; rfl) (.pointer (some ⟨C, 0, none⟩)) W ?_ (HKP.out listed 0 _ hs (by decide) (by decide) hB) (RR.refl _ _) rfl
            · intro q hq
              obtain rfl := Option.some.inj ho
              have e1 := hq.tmp 1
              simp at e1
              simp [execOp, e1, go_sem]
          · have d63 : f 63 = .pointer (some ⟨C, 0, none⟩) := hdep ⟨0, .data⟩ (by obtain rfl := Option.some.inj ho; simp) rfl
            refine iv_val ho (by obtain rfl := Option.some.inj ho; rfl) (.pointer (some ⟨C, 0, none⟩)) W ?_ (HKP.out listed 1 _ hs (by decide) (by decide) hB) (RR.refl _ _) rfl
            · intro q hq
              obtain rfl := Option.some.inj ho
              have e63 := hq.tmp 63
              simp at e63
              simp [execOp, e63, d63, go_sem]
          · have d64 : f 64 = .pointer (some ⟨C, 0, none⟩) := hdep ⟨1, .data⟩ (by obtain rfl := Option.some.inj ho; simp) rfl
            refine iv_val ho (by obtain rfl := Option.some.inj ho; rfl) (.pointer (some ⟨C, 0, none⟩)) W ?_ (HKP.out listed 2 _ hs (by decide) (by decide) hB) (RR.refl _ _) rfl
            · intro q hq
              obtain rfl := Option.some.inj ho
              have e64 := hq.tmp 64
              simp at e64
              simp [execOp, e64, d64, go_sem]
          · have d65 : f 65 = .pointer (some ⟨C, 0, none⟩) := hdep ⟨2, .data⟩ (by obtain rfl := Option.some.inj ho; simp) rfl
            have y9 := (HCC.out W hB.own.2.1).1
            refine iv_val ho (by obtain rfl := Option.some.inj ho; rfl) (.slice (some ⟨go, 0, none⟩) ps.length pcap) W ?_ (HKP.out listed 3 _ hs (by decide) (by decide) hB) (RR.refl _ _) rfl
            · intro q hq
              obtain rfl := Option.some.inj ho
              have e65 := hq.tmp 65
              simp at e65
              simp [execOp, e65, d65, go_sem, y9]
          · refine iv_val ho (by obtain rfl := Option.some.inj ho; rfl) (.pointer (some ⟨s, 0, none⟩)) W ?_ (HKP.out listed 4 _ hs (by decide) (by decide) hB) (RR.refl _ _) rfl
            · intro q hq
              obtain rfl := Option.some.inj ho
              have e0 := hq.tmp 0
              simp at e0
              simp [execOp, e0, go_sem]
          · refine iv_val ho (by obtain rfl := Option.some.inj ho; rfl) (.pointer (some ⟨C, 0, none⟩)) W ?_ (HKP.out listed 5 _ hs (by decide) (by decide) hB) (RR.refl _ _) rfl
            · intro q hq
              obtain rfl := Option.some.inj ho
              have e1 := hq.tmp 1
              simp at e1
              simp [execOp, e1, go_sem]
          · have d68 : f 68 = .pointer (some ⟨C, 0, none⟩) := hdep ⟨5, .data⟩ (by obtain rfl := Option.some.inj ho; simp) rfl
            refine iv_val ho (by obtain rfl := Option.some.inj ho; rfl) (.pointer (some ⟨C, 0, none⟩)) W ?_ (HKP.out listed 6 _ hs (by decide) (by decide) hB) (RR.refl _ _) rfl
            · intro q hq
              obtain rfl := Option.some.inj ho
              have e68 := hq.tmp 68
              simp at e68
              simp [execOp, e68, d68, go_sem]
          · have d69 : f 69 = .pointer (some ⟨C, 0, none⟩) := hdep ⟨6, .data⟩ (by obtain rfl := Option.some.inj ho; simp) rfl
            refine iv_val ho (by obtain rfl := Option.some.inj ho; rfl) (.pointer (some ⟨C, 0, none⟩)) W ?_ (HKP.out listed 7 _ hs (by decide) (by decide) hB) (RR.refl _ _) rfl
            · intro q hq
              obtain rfl := Option.some.inj ho
              have e69 := hq.tmp 69
              simp at e69
              simp [execOp, e69, d69, go_sem]
          · have d70 : f 70 = .pointer (some ⟨C, 0, none⟩) := hdep ⟨7, .data⟩ (by obtain rfl := Option.some.inj ho; simp) rfl
            have y9 := (HCC.out W hB.own.2.1).1
            refine iv_val ho (by obtain rfl := Option.some.inj ho; rfl) (.slice (some ⟨go, 0, none⟩) ps.length pcap) W ?_ (HKP.out listed 8 _ hs (by decide) (by decide) hB) (RR.refl _ _) rfl
            · intro q hq
              obtain rfl := Option.some.inj ho
              have e70 := hq.tmp 70
              simp at e70
              simp [execOp, e70, d70, go_sem, y9]
          · have d71 : f 71 = .slice (some ⟨go, 0, none⟩) ps.length pcap := hdep ⟨8, .data⟩ (by obtain rfl := Option.some.inj ho; simp) rfl
            refine iv_val ho (by obtain rfl := Option.some.inj ho; rfl) (.int .i64 ps.length) W ?_ (HKP.out listed 9 _ hs (by decide) (by decide) hB) (RR.refl _ _) rfl
            · intro q hq
              obtain rfl := Option.some.inj ho
              have e71 := hq.tmp 71
              simp at e71
              simp [execOp, e71, d71, go_sem, resolve, invoke, builtin]
          · have d67 : f 67 = .pointer (some ⟨s, 0, none⟩) := hdep ⟨4, .data⟩ (by obtain rfl := Option.some.inj ho; simp) rfl
            have d72 : f 72 = .int .i64 ps.length := hdep ⟨9, .data⟩ (by obtain rfl := Option.some.inj ho; simp) rfl
            rw [hli] at hB
            have hS : StrX W s li (m8 + 0) := by simpa using hB.str
            refine iv_call ho (by obtain rfl := Option.some.inj ho; rfl) 23 #[.tmp 67, .tmp 72] _ (by obtain rfl := Option.some.inj ho; rfl) (enters_of Tryz.func23 (by kernel_rfl) rfl) #[.pointer (some ⟨s, 0, none⟩), .int .i64 ps.length] (by intro q hq; have e67 := hq.tmp 67; simp at e67; have e72 := hq.tmp 72; simp at e72; simp [e67, e72, d67, d72]) _ (HC0.out W hS) ?_
            rintro e W' ⟨rfl, hs', hg'⟩
            have hN : BX (fun _ _ _ W => OwnR TPt W B (.slice (some ⟨go, 0, none⟩) ps.length pcap) ps ∧ (XK wb Kp W ∧ OwnR TAl W B (.slice aa l.length acap) l)) w0 s (w8.heap.size) li m8 true false false false false false W' := hB.call hK (by simpa using hs') hg'
            refine ⟨_, rfl, ?_, RR.of_gr hg' (by omega), rfl⟩
            show BX (fun _ _ _ W => OwnR TPt W B (.slice (some ⟨go, 0, none⟩) ps.length pcap) ps ∧ (XK wb Kp W ∧ OwnR TAl W B (.slice aa l.length acap) l)) w0 s (w8.heap.size) li m8 ((listed.setIfInBounds 10 true).getD 10 false) false false false false false W'
            rw [gd_in hs (by decide)]
            exact hN
          · have d66 : f 66 = .slice (some ⟨go, 0, none⟩) ps.length pcap := hdep ⟨3, .data⟩ (by obtain rfl := Option.some.inj ho; simp) rfl
            have d73 : f 73 = .int .i64 j := hdep ⟨10, .data⟩ (by obtain rfl := Option.some.inj ho; simp) rfl
            have i1 : (0 : Int) ≤ (j : Int) := by omega
            have i2 : (j : Int) < (ps.length : Int) := by omega
            refine iv_val ho (by obtain rfl := Option.some.inj ho; rfl) (.pointer (some ⟨go, j * 4, none⟩)) W ?_ (HKP.out listed 11 _ hs (by decide) (by decide) hB) (RR.refl _ _) rfl
            · intro q hq
              obtain rfl := Option.some.inj ho
              have e66 := hq.tmp 66
              have e73 := hq.tmp 73
              simp at e66 e73
              simp [execOp, e66, e73, d66, d73, go_sem, i1, i2]
          · have d74 : f 74 = .pointer (some ⟨go, j * 4, none⟩) := hdep ⟨11, .data⟩ (by obtain rfl := Option.some.inj ho; simp) rfl
            refine iv_val ho (by obtain rfl := Option.some.inj ho; rfl) (.pointer (some ⟨go, j * 4, none⟩)) W ?_ (HKP.out listed 12 _ hs (by decide) (by decide) hB) (RR.refl _ _) rfl
            · intro q hq
              obtain rfl := Option.some.inj ho
              have e74 := hq.tmp 74
              simp at e74
              simp [execOp, e74, d74, go_sem]
        intro listed9 f9 w9 hall hB9 hV9
        have hd4 : f9 5 = .pointer (some ⟨go, j * 4, none⟩) := hV9 12 (by decide)
        have hl9 : listed9.getD 10 false = true := hall 10 (by decide)
        replace hB9 : BX (fun _ _ _ W => OwnR TPt W B (.slice (some ⟨go, 0, none⟩) ps.length pcap) ps ∧ (XK wb Kp W ∧ OwnR TAl W B (.slice aa l.length acap) l)) w0 s (w8.heap.size) li m8 (listed9.getD 10 false) false false false false false w9 := hB9
        rw [hl9] at hB9
        unfold putsA
        simp only [List.mapIdx_toArray, List.mapIdx_cons, List.mapIdx_nil, List.contains_cons]
        simp
        rw [hd4]
        obtain ⟨hS9, ⟨hO9, hX9⟩, hz9, hG9⟩ := hB9
        replace hS9 : StrX w9 s li (m8 + 1) := hS9
        have ls9 := hS9.lt
        have lgo9 : go < w9.heap.size := (World.ownsRow.lt hO9 go rfl).2
        have HXS : Hid (∀ W o v, (XK wb Kp W ∧ OwnR TAl W B (.slice aa l.length acap) l) → (XK wb Kp (W.setCell ⟨go, o, none⟩ v) ∧ OwnR TAl (W.setCell ⟨go, o, none⟩ v) B (.slice aa l.length acap) l)) := Lib.hid fun W o v hW => ⟨hW.1.set HKP9.out hgo o v, (ownR_k TAl B).keep hW.2 fun k hk => Below.heap_setCell _ ⟨go, o, none⟩ _ k (HOTY.out k hk)⟩
        clear hV9 hd4 hall hl9 hX8 hS8 hp8 ha8 hG8 hK HKP HC0
        obtain ⟨y0, hy0⟩ : ∃ q, q = smX li (m8 + 1) [kx, ⟨#[]⟩, ⟨#[98]⟩] := ⟨_, rfl⟩
        obtain ⟨y1, hy1⟩ : ∃ q, q = pkX li (m8 + 1 + 1) [lx, 0, 7] := ⟨_, rfl⟩
        obtain ⟨y2, hy2⟩ : ∃ q, q = pkX li (m8 + 1 + 2) [bx, -1, 720000001] := ⟨_, rfl⟩
        have HY := Lib.hid (And.intro hy0 (And.intro hy1 hy2))
        have HC1 : Hid (∀ W v, StrX W s li (m8 + 1 + 0) → RecR TS W (s + 1) v [kx, (⟨#[]⟩ : ByteArray), (⟨#[98]⟩ : ByteArray)] → Calls Tryz.prog 34 #[.pointer (some ⟨s, 0, none⟩), v] W fun e w' => e = .returned (.string y0) ∧ StrX w' s li (m8 + 1 + 0 + 1) ∧ W.grownBy w' (some s)) := Lib.hid fun W v hS hr => by
          rw [hy0]
          exact Some_x s _ li _ v W hS (by omega) hr (by simp) (by simp)
        have HC2 : Hid (∀ W v, StrX W s li (m8 + 1 + 1) → Ints W (s + 1) v [lx, (0 : Int), (7 : Int)] → Calls Tryz.prog 35 #[.pointer (some ⟨s, 0, none⟩), v] W fun e w' => e = .returned (.int .i64 y1) ∧ StrX w' s li (m8 + 1 + 1 + 1) ∧ W.grownBy w' (some s)) := Lib.hid fun W v hS hr => by
          rw [hy1]
          exact Pick_x s _ li _ v W hS (by omega) hr (by simp) (by simp)
        have HC3 : Hid (∀ W v, StrX W s li (m8 + 1 + 2) → Ints W (s + 1) v [bx, (-1 : Int), (720000001 : Int)] → Calls Tryz.prog 35 #[.pointer (some ⟨s, 0, none⟩), v] W fun e w' => e = .returned (.int .i64 y2) ∧ StrX w' s li (m8 + 1 + 2 + 1) ∧ W.grownBy w' (some s)) := Lib.hid fun W v hS hr => by
          rw [hy2]
          exact Pick_x s _ li _ v W hS (by omega) hr (by simp) (by simp)
        have hsj : ps.set j (kx, px, lx, bx) = ps := by
          obtain ⟨h1, h2⟩ := List.getElem?_eq_some_iff.1 HJX.out.2
          rw [← h2]
          exact List.set_getElem_self h1
        have hO9' : OwnR TPt w9 B (.slice (some ⟨go, 0, none⟩) ps.length pcap) (ps.set j (kx, px, lx, bx)) := by rw [hsj]; exact hO9
        have hK : ∀ a b c : Bool, OwnK (((fun t0 t1 t2 W => OwnR TPt W B (.slice (some ⟨go, 0, none⟩) ps.length pcap) (ps.set j (cond t0 y0 kx, px, cond t1 y1 lx, cond t2 y2 bx)) ∧ (XK wb Kp W ∧ OwnR TAl W B (.slice aa l.length acap) l)) : Bool → Bool → Bool → World → Prop) a b c) s := fun _ _ _ => ⟨fun W W' h hb => ⟨h.1.below hb, HXC.out W h.2 W' hb⟩, fun W W' h hg => ⟨h.1.grown hg (by omega), HXG.out W h.2 W' hg⟩⟩
        clear hsj hO9 hy0 hy1 hy2 hj hx hjI hj1 hj2
        go_wp2
        have HKP : Hid (∀ (listed : Array Bool) (i : Nat) (W : World), listed.size = 33 → i < 33 → i ∉ ([9, 16, 23, 26, 29, 32] : List Nat) → BX (fun t0 t1 t2 W => OwnR TPt W B (.slice (some ⟨go, 0, none⟩) ps.length pcap) (ps.set j (cond t0 y0 kx, px, cond t1 y1 lx, cond t2 y2 bx)) ∧ (XK wb Kp W ∧ OwnR TAl W B (.slice aa l.length acap) l)) w0 s (w9.heap.size) li (m8 + 1) (listed.getD 9 false) (listed.getD 16 false) (listed.getD 23 false) (listed.getD 26 false) (listed.getD 29 false) (listed.getD 32 false) W → BX (fun t0 t1 t2 W => OwnR TPt W B (.slice (some ⟨go, 0, none⟩) ps.length pcap) (ps.set j (cond t0 y0 kx, px, cond t1 y1 lx, cond t2 y2 bx)) ∧ (XK wb Kp W ∧ OwnR TAl W B (.slice aa l.length acap) l)) w0 s (w9.heap.size) li (m8 + 1) ((listed.setIfInBounds i true).getD 9 false) ((listed.setIfInBounds i true).getD 16 false) ((listed.setIfInBounds i true).getD 23 false) ((listed.setIfInBounds i true).getD 26 false) ((listed.setIfInBounds i true).getD 29 false) ((listed.setIfInBounds i true).getD 32 false) W) := Lib.hid fun listed i W hs hi hn h => by
          rw [gd_out hs hi (fun e => hn (by rw [← e]; decide)), gd_out hs hi (fun e => hn (by rw [← e]; decide)), gd_out hs hi (fun e => hn (by rw [← e]; decide)), gd_out hs hi (fun e => hn (by rw [← e]; decide)), gd_out hs hi (fun e => hn (by rw [← e]; decide)), gd_out hs hi (fun e => hn (by rw [← e]; decide))]
          exact h
        refine wp_region_sx (by kernel_rfl) [75, 76, 77, 78, 79, 80, 81, 82, 83, 84, 85, 86, 87, 88, 89, 90, 91, 92, 93, 94, 95, 96, 97, 98, 99, 100, 101, 102, 103, 104] (fun (listed : Array Bool) (W : World) => BX (fun t0 t1 t2 W => OwnR TPt W B (.slice (some ⟨go, 0, none⟩) ps.length pcap) (ps.set j (cond t0 y0 kx, px, cond t1 y1 lx, cond t2 y2 bx)) ∧ (XK wb Kp W ∧ OwnR TAl W B (.slice aa l.length acap) l)) w0 s (w9.heap.size) li (m8 + 1) (listed.getD 9 false) (listed.getD 16 false) (listed.getD 23 false) (listed.getD 26 false) (listed.getD 29 false) (listed.getD 32 false) W) (RR (w9.heap.size)) (fun i => [VE (.pointer (some ⟨go, j * 4, none⟩)), VE (.pointer (some ⟨go, j * 4, none⟩)), VE (.pointer (some ⟨go, j * 4, none⟩)), VE (.pointer (some ⟨s, 0, none⟩)), VE (.pointer (some ⟨go, j * 4, none⟩)), VE (.pointer (some ⟨go, j * 4, none⟩)), VE (.pointer (some ⟨go, j * 4, none⟩)), VE (.string kx), VLSx (w9.heap.size) [kx, (⟨#[]⟩ : ByteArray), (⟨#[98]⟩ : ByteArray)], VE (.string y0), VE (.pointer (some ⟨s, 0, none⟩)), VE (.pointer (some ⟨go, j * 4, none⟩)), VE (.pointer (some ⟨go, j * 4, none⟩)), VE (.pointer (some ⟨go, j * 4 + 2, none⟩)), VE (.int .i64 lx), VLIx (w9.heap.size) [lx, (0 : Int), (7 : Int)], VE (.int .i64 y1), VE (.pointer (some ⟨s, 0, none⟩)), VE (.pointer (some ⟨go, j * 4, none⟩)), VE (.pointer (some ⟨go, j * 4, none⟩)), VE (.pointer (some ⟨go, j * 4 + 3, none⟩)), VE (.int .i64 bx), VLIx (w9.heap.size) [bx, (-1 : Int), (720000001 : Int)], VE (.int .i64 y2), VE (.pointer (some ⟨go, j * 4, none⟩)), VE (.pointer (some ⟨go, j * 4, none⟩)), VT, VE (.pointer (some ⟨go, j * 4, none⟩)), VE (.pointer (some ⟨go, j * 4 + 2, none⟩)), VT, VE (.pointer (some ⟨go, j * 4, none⟩)), VE (.pointer (some ⟨go, j * 4 + 3, none⟩)), VT].getD i VT) (by kernel_rfl) (by kernel_rfl) ?_ ?_ ?_ ?_ ?_
        · simp only [gd_start]
          exact ⟨by simpa using hS9.drew, ⟨hO9', hX9⟩, Nat.le_refl _, ⟨hG9.os, hG9.tape, hG9.output, hG9.size, hG9.block⟩⟩
        · intro listed W W' i v hB hR hV
          exact match i, hV with
            | 0, h => h
            | 1, h => h
            | 2, h => h
            | 3, h => h
            | 4, h => h
            | 5, h => h
            | 6, h => h
            | 7, h => h
            | 8, h => VLSx.stab h hR
            | 9, h => h
            | 10, h => h
            | 11, h => h
            | 12, h => h
            | 13, h => h
            | 14, h => h
            | 15, h => VLIx.stab h hR
            | 16, h => h
            | 17, h => h
            | 18, h => h
            | 19, h => h
            | 20, h => h
            | 21, h => h
            | 22, h => VLIx.stab h hR
            | 23, h => h
            | 24, h => h
            | 25, h => h
            | 26, h => h
            | 27, h => h
            | 28, h => h
            | 29, h => h
            | 30, h => h
            | 31, h => h
            | 32, h => h
            | (_ + 33), _ => trivial
        · intro i o v W ho hd
          match i, ho with
            | 0, ho => (obtain rfl := Option.some.inj ho; cases hd)
            | 1, ho => (obtain rfl := Option.some.inj ho; cases hd)
            | 2, ho => (obtain rfl := Option.some.inj ho; cases hd)
            | 3, ho => (obtain rfl := Option.some.inj ho; cases hd)
            | 4, ho => (obtain rfl := Option.some.inj ho; cases hd)
            | 5, ho => (obtain rfl := Option.some.inj ho; cases hd)
            | 6, ho => (obtain rfl := Option.some.inj ho; cases hd)
            | 7, ho => (obtain rfl := Option.some.inj ho; cases hd)
            | 8, ho => (obtain rfl := Option.some.inj ho; cases hd)
            | 9, ho => (obtain rfl := Option.some.inj ho; cases hd)
            | 10, ho => (obtain rfl := Option.some.inj ho; cases hd)
            | 11, ho => (obtain rfl := Option.some.inj ho; cases hd)
            | 12, ho => (obtain rfl := Option.some.inj ho; cases hd)
            | 13, ho => (obtain rfl := Option.some.inj ho; cases hd)
            | 14, ho => (obtain rfl := Option.some.inj ho; cases hd)
            | 15, ho => (obtain rfl := Option.some.inj ho; cases hd)
            | 16, ho => (obtain rfl := Option.some.inj ho; cases hd)
            | 17, ho => (obtain rfl := Option.some.inj ho; cases hd)
            | 18, ho => (obtain rfl := Option.some.inj ho; cases hd)
            | 19, ho => (obtain rfl := Option.some.inj ho; cases hd)
            | 20, ho => (obtain rfl := Option.some.inj ho; cases hd)
            | 21, ho => (obtain rfl := Option.some.inj ho; cases hd)
            | 22, ho => (obtain rfl := Option.some.inj ho; cases hd)
            | 23, ho => (obtain rfl := Option.some.inj ho; cases hd)
            | 24, ho => (obtain rfl := Option.some.inj ho; cases hd)
            | 25, ho => (obtain rfl := Option.some.inj ho; cases hd)
            | 26, ho => trivial
            | 27, ho => (obtain rfl := Option.some.inj ho; cases hd)
            | 28, ho => (obtain rfl := Option.some.inj ho; cases hd)
            | 29, ho => trivial
            | 30, ho => (obtain rfl := Option.some.inj ho; cases hd)
            | 31, ho => (obtain rfl := Option.some.inj ho; cases hd)
            | 32, ho => trivial
            | (_ + 33), _ => trivial
        · intro listed i o f W ho hi hs hli hcl hdl hB hdep
          replace hs : listed.size = 33 := hs
          replace hB : BX (fun t0 t1 t2 W => OwnR TPt W B (.slice (some ⟨go, 0, none⟩) ps.length pcap) (ps.set j (cond t0 y0 kx, px, cond t1 y1 lx, cond t2 y2 bx)) ∧ (XK wb Kp W ∧ OwnR TAl W B (.slice aa l.length acap) l)) w0 s (w9.heap.size) li (m8 + 1) (listed.getD 9 false) (listed.getD 16 false) (listed.getD 23 false) (listed.getD 26 false) (listed.getD 29 false) (listed.getD 32 false) W := hB
          have hi' : i = 0 ∨ i = 1 ∨ i = 2 ∨ i = 3 ∨ i = 4 ∨ i = 5 ∨ i = 6 ∨ i = 7 ∨ i = 8 ∨ i = 9 ∨ i = 10 ∨ i = 11 ∨ i = 12 ∨ i = 13 ∨ i = 14 ∨ i = 15 ∨ i = 16 ∨ i = 17 ∨ i = 18 ∨ i = 19 ∨ i = 20 ∨ i = 21 ∨ i = 22 ∨ i = 23 ∨ i = 24 ∨ i = 25 ∨ i = 26 ∨ i = 27 ∨ i = 28 ∨ i = 29 ∨ i = 30 ∨ i = 31 ∨ i = 32 := by
            have : i < 33 := hi
            omega
          rcases hi' with rfl | rfl | rfl | rfl | rfl | rfl | rfl | rfl | rfl | rfl | rfl | rfl | rfl | rfl | rfl | rfl | rfl | rfl | rfl | rfl | rfl | rfl | rfl | rfl | rfl | rfl | rfl | rfl | rfl | rfl | rfl | rfl | rfl
          · refine iv_val ho (by obtain rfl := Option.some.inj ho; rfl) (.pointer (some ⟨go, j * 4, none⟩)) W ?_ (HKP.out listed 0 _ hs (by decide) (by decide) hB) (RR.refl _ _) rfl
            · intro q hq
              obtain rfl := Option.some.inj ho
              have e5 := hq.tmp 5
              simp at e5
              simp [execOp, e5, go_sem]
          · refine iv_val ho (by obtain rfl := Option.some.inj ho; rfl) (.pointer (some ⟨go, j * 4, none⟩)) W ?_ (HKP.out listed 1 _ hs (by decide) (by decide) hB) (RR.refl _ _) rfl
            · intro q hq
              obtain rfl := Option.some.inj ho
              have e5 := hq.tmp 5
              simp at e5
              simp [execOp, e5, go_sem]
          · refine iv_val ho (by obtain rfl := Option.some.inj ho; rfl) (.pointer (some ⟨go, j * 4, none⟩)) W ?_ (HKP.out listed 2 _ hs (by decide) (by decide) hB) (RR.refl _ _) rfl
            · intro q hq
              obtain rfl := Option.some.inj ho
              have e5 := hq.tmp 5
              simp at e5
              simp [execOp, e5, go_sem]
          · refine iv_val ho (by obtain rfl := Option.some.inj ho; rfl) (.pointer (some ⟨s, 0, none⟩)) W ?_ (HKP.out listed 3 _ hs (by decide) (by decide) hB) (RR.refl _ _) rfl
            · intro q hq
              obtain rfl := Option.some.inj ho
              have e0 := hq.tmp 0
              simp at e0
              simp [execOp, e0, go_sem]
          · refine iv_val ho (by obtain rfl := Option.some.inj ho; rfl) (.pointer (some ⟨go, j * 4, none⟩)) W ?_ (HKP.out listed 4 _ hs (by decide) (by decide) hB) (RR.refl _ _) rfl
            · intro q hq
              obtain rfl := Option.some.inj ho
              have e5 := hq.tmp 5
              simp at e5
              simp [execOp, e5, go_sem]
          · have d79 : f 79 = .pointer (some ⟨go, j * 4, none⟩) := hdep ⟨4, .data⟩ (by obtain rfl := Option.some.inj ho; simp) rfl
            refine iv_val ho (by obtain rfl := Option.some.inj ho; rfl) (.pointer (some ⟨go, j * 4, none⟩)) W ?_ (HKP.out listed 5 _ hs (by decide) (by decide) hB) (RR.refl _ _) rfl
            · intro q hq
              obtain rfl := Option.some.inj ho
              have e79 := hq.tmp 79
              simp at e79
              simp [execOp, e79, d79, go_sem]
          · have d80 : f 80 = .pointer (some ⟨go, j * 4, none⟩) := hdep ⟨5, .data⟩ (by obtain rfl := Option.some.inj ho; simp) rfl
            refine iv_val ho (by obtain rfl := Option.some.inj ho; rfl) (.pointer (some ⟨go, j * 4, none⟩)) W ?_ (HKP.out listed 6 _ hs (by decide) (by decide) hB) (RR.refl _ _) rfl
            · intro q hq
              obtain rfl := Option.some.inj ho
              have e80 := hq.tmp 80
              simp at e80
              simp [execOp, e80, d80, go_sem]
          · have d81 : f 81 = .pointer (some ⟨go, j * 4, none⟩) := hdep ⟨6, .data⟩ (by obtain rfl := Option.some.inj ho; simp) rfl
            have hO' := hB.own.1
            rw [show listed.getD 26 false = false from (hcl.no (hcl.no (hcl.no hli 8 ⟨7, .data⟩ rfl rfl (by simp) rfl) 9 ⟨8, .data⟩ rfl rfl (by simp) rfl) 26 ⟨9, .data⟩ rfl rfl (by simp) rfl)] at hO'
            have hx0 : (ps.set j (cond false y0 kx, px, cond (listed.getD 29 false) y1 lx, cond (listed.getD 32 false) y2 bx))[j]? = some (cond false y0 kx, px, cond (listed.getD 29 false) y1 lx, cond (listed.getD 32 false) y2 bx) := List.getElem?_set_self hjn
            have y9 : W.cell? ⟨go, j * 4, none⟩ = some (.string kx) := (OwnR.cellf TPt.ok hO' (by simp) hx0 (fo := 0) rfl).1
            refine iv_val ho (by obtain rfl := Option.some.inj ho; rfl) (.string kx) W ?_ (HKP.out listed 7 _ hs (by decide) (by decide) hB) (RR.refl _ _) rfl
            · intro q hq
              obtain rfl := Option.some.inj ho
              have e81 := hq.tmp 81
              simp at e81
              simp [execOp, e81, d81, go_sem, y9]
          · have d82 : f 82 = .string kx := hdep ⟨7, .data⟩ (by obtain rfl := Option.some.inj ho; simp) rfl
            refine iv_val ho (by obtain rfl := Option.some.inj ho; rfl) (.slice (some ⟨W.heap.size, 0, none⟩) 3 3) (W.alloc (.cells #[.string kx, .string (⟨#[]⟩ : ByteArray), .string (⟨#[98]⟩ : ByteArray)] 9)) ?_ (HKP.out listed 8 _ hs (by decide) (by decide) (hB.below hK (Bl.alloc (Below.refl _ _) _))) (RR.of_below (Bl.alloc (Below.refl _ _) _)) ⟨⟨_, rfl⟩, RecR.of_blk (T := TS) (blk_new _ _) rfl rfl (by simp) (by omega) hB.size⟩
            · intro q hq
              obtain rfl := Option.some.inj ho
              have e82 := hq.tmp 82
              simp at e82
              simp [execOp, hq.const, e82, d82, go_sem]
          · have d78 : f 78 = .pointer (some ⟨s, 0, none⟩) := hdep ⟨3, .data⟩ (by obtain rfl := Option.some.inj ho; simp) rfl
            obtain ⟨⟨bi, d83⟩, hri⟩ : VLSx (w9.heap.size) [kx, (⟨#[]⟩ : ByteArray), (⟨#[98]⟩ : ByteArray)] (f 83) W := hdep ⟨8, .data⟩ (by obtain rfl := Option.some.inj ho; simp) rfl
            have l1 : listed.getD 16 false = false := (hcl.no hli 16 ⟨9, .chain⟩ rfl rfl (by simp) rfl)
            have l2 : listed.getD 23 false = false := (hcl.no (hcl.no hli 16 ⟨9, .chain⟩ rfl rfl (by simp) rfl) 23 ⟨16, .chain⟩ rfl rfl (by simp) rfl)
            rw [hli, l1, l2] at hB
            have hS : StrX W s li ((m8 + 1) + 0) := by simpa using hB.str
            refine iv_call ho (by obtain rfl := Option.some.inj ho; rfl) 34 #[.tmp 78, .tmp 83] _ (by obtain rfl := Option.some.inj ho; rfl) (enters_of Tryz.func34 (by kernel_rfl) rfl) #[.pointer (some ⟨s, 0, none⟩), f 83] (by intro q hq; have e78 := hq.tmp 78; simp at e78; have e83 := hq.tmp 83; simp at e83; simp [e78, e83, d78]) _ (HC1.out W (f 83) hS (Rd.mono hri (by omega))) ?_
            rintro e W' ⟨rfl, hs', hg'⟩
            have hN : BX (fun t0 t1 t2 W => OwnR TPt W B (.slice (some ⟨go, 0, none⟩) ps.length pcap) (ps.set j (cond t0 y0 kx, px, cond t1 y1 lx, cond t2 y2 bx)) ∧ (XK wb Kp W ∧ OwnR TAl W B (.slice aa l.length acap) l)) w0 s (w9.heap.size) li (m8 + 1) true false false (listed.getD 26 false) (listed.getD 29 false) (listed.getD 32 false) W' := hB.call hK (by simpa using hs') hg'
            refine ⟨_, rfl, ?_, RR.of_gr hg' (by omega), rfl⟩
            show BX (fun t0 t1 t2 W => OwnR TPt W B (.slice (some ⟨go, 0, none⟩) ps.length pcap) (ps.set j (cond t0 y0 kx, px, cond t1 y1 lx, cond t2 y2 bx)) ∧ (XK wb Kp W ∧ OwnR TAl W B (.slice aa l.length acap) l)) w0 s (w9.heap.size) li (m8 + 1) ((listed.setIfInBounds 9 true).getD 9 false) ((listed.setIfInBounds 9 true).getD 16 false) ((listed.setIfInBounds 9 true).getD 23 false) ((listed.setIfInBounds 9 true).getD 26 false) ((listed.setIfInBounds 9 true).getD 29 false) ((listed.setIfInBounds 9 true).getD 32 false) W'
            rw [gd_in hs (by decide), gd_out hs (by decide) (by decide), l1, gd_out hs (by decide) (by decide), l2, gd_out hs (by decide) (by decide), gd_out hs (by decide) (by decide), gd_out hs (by decide) (by decide)]
            exact hN
          · refine iv_val ho (by obtain rfl := Option.some.inj ho; rfl) (.pointer (some ⟨s, 0, none⟩)) W ?_ (HKP.out listed 10 _ hs (by decide) (by decide) hB) (RR.refl _ _) rfl
            · intro q hq
              obtain rfl := Option.some.inj ho
              have e0 := hq.tmp 0
              simp at e0
              simp [execOp, e0, go_sem]
          · refine iv_val ho (by obtain rfl := Option.some.inj ho; rfl) (.pointer (some ⟨go, j * 4, none⟩)) W ?_ (HKP.out listed 11 _ hs (by decide) (by decide) hB) (RR.refl _ _) rfl
            · intro q hq
              obtain rfl := Option.some.inj ho
              have e5 := hq.tmp 5
              simp at e5
              simp [execOp, e5, go_sem]
          · have d86 : f 86 = .pointer (some ⟨go, j * 4, none⟩) := hdep ⟨11, .data⟩ (by obtain rfl := Option.some.inj ho; simp) rfl
            refine iv_val ho (by obtain rfl := Option.some.inj ho; rfl) (.pointer (some ⟨go, j * 4, none⟩)) W ?_ (HKP.out listed 12 _ hs (by decide) (by decide) hB) (RR.refl _ _) rfl
            · intro q hq
              obtain rfl := Option.some.inj ho
              have e86 := hq.tmp 86
              simp at e86
              simp [execOp, e86, d86, go_sem]
          · have d87 : f 87 = .pointer (some ⟨go, j * 4, none⟩) := hdep ⟨12, .data⟩ (by obtain rfl := Option.some.inj ho; simp) rfl
            refine iv_val ho (by obtain rfl := Option.some.inj ho; rfl) (.pointer (some ⟨go, j * 4 + 2, none⟩)) W ?_ (HKP.out listed 13 _ hs (by decide) (by decide) hB) (RR.refl _ _) rfl
            · intro q hq
              obtain rfl := Option.some.inj ho
              have e87 := hq.tmp 87
              simp at e87
              simp [execOp, e87, d87, go_sem]
          · have d88 : f 88 = .pointer (some ⟨go, j * 4 + 2, none⟩) := hdep ⟨13, .data⟩ (by obtain rfl := Option.some.inj ho; simp) rfl
            have hO' := hB.own.1
            rw [show listed.getD 29 false = false from (hcl.no (hcl.no (hcl.no hli 15 ⟨14, .data⟩ rfl rfl (by simp) rfl) 16 ⟨15, .data⟩ rfl rfl (by simp) rfl) 29 ⟨16, .data⟩ rfl rfl (by simp) rfl)] at hO'
            have hx0 : (ps.set j (cond (listed.getD 26 false) y0 kx, px, cond false y1 lx, cond (listed.getD 32 false) y2 bx))[j]? = some (cond (listed.getD 26 false) y0 kx, px, cond false y1 lx, cond (listed.getD 32 false) y2 bx) := List.getElem?_set_self hjn
            have y9 : W.cell? ⟨go, j * 4 + 2, none⟩ = some (.int .i64 lx) := (OwnR.cellf TPt.ok hO' (by simp) hx0 (fo := 2) rfl).1
            refine iv_val ho (by obtain rfl := Option.some.inj ho; rfl) (.int .i64 lx) W ?_ (HKP.out listed 14 _ hs (by decide) (by decide) hB) (RR.refl _ _) rfl
            · intro q hq
              obtain rfl := Option.some.inj ho
              have e88 := hq.tmp 88
              simp at e88
              simp [execOp, e88, d88, go_sem, y9]
          · have d89 : f 89 = .int .i64 lx := hdep ⟨14, .data⟩ (by obtain rfl := Option.some.inj ho; simp) rfl
            refine iv_val ho (by obtain rfl := Option.some.inj ho; rfl) (.slice (some ⟨W.heap.size, 0, none⟩) 3 3) (W.alloc (.cells #[.int .i64 lx, .int .i64 (0 : Int), .int .i64 (7 : Int)] 3)) ?_ (HKP.out listed 15 _ hs (by decide) (by decide) (hB.below hK (Bl.alloc (Below.refl _ _) _))) (RR.of_below (Bl.alloc (Below.refl _ _) _)) ⟨⟨_, rfl⟩, Ints.of_blk (blk_new _ _) rfl rfl (by simp) (by omega) hB.size⟩
            · intro q hq
              obtain rfl := Option.some.inj ho
              have e89 := hq.tmp 89
              simp at e89
              simp [execOp, hq.const, e89, d89, go_sem]
          · have d85 : f 85 = .pointer (some ⟨s, 0, none⟩) := hdep ⟨10, .data⟩ (by obtain rfl := Option.some.inj ho; simp) rfl
            obtain ⟨⟨bi, d90⟩, hri⟩ : VLIx (w9.heap.size) [lx, (0 : Int), (7 : Int)] (f 90) W := hdep ⟨15, .data⟩ (by obtain rfl := Option.some.inj ho; simp) rfl
            have l0 : listed.getD 9 false = true := hdl ⟨9, .chain⟩ (by obtain rfl := Option.some.inj ho; simp) rfl
            have l2 : listed.getD 23 false = false := (hcl.no hli 23 ⟨16, .chain⟩ rfl rfl (by simp) rfl)
            rw [l0, hli, l2] at hB
            have hS : StrX W s li ((m8 + 1) + 1) := by simpa using hB.str
            refine iv_call ho (by obtain rfl := Option.some.inj ho; rfl) 35 #[.tmp 85, .tmp 90] _ (by obtain rfl := Option.some.inj ho; rfl) (enters_of Tryz.func35 (by kernel_rfl) rfl) #[.pointer (some ⟨s, 0, none⟩), f 90] (by intro q hq; have e85 := hq.tmp 85; simp at e85; have e90 := hq.tmp 90; simp at e90; simp [e85, e90, d85]) _ (HC2.out W (f 90) hS (Rd.mono hri (by omega))) ?_
            rintro e W' ⟨rfl, hs', hg'⟩
            have hN : BX (fun t0 t1 t2 W => OwnR TPt W B (.slice (some ⟨go, 0, none⟩) ps.length pcap) (ps.set j (cond t0 y0 kx, px, cond t1 y1 lx, cond t2 y2 bx)) ∧ (XK wb Kp W ∧ OwnR TAl W B (.slice aa l.length acap) l)) w0 s (w9.heap.size) li (m8 + 1) true true false (listed.getD 26 false) (listed.getD 29 false) (listed.getD 32 false) W' := hB.call hK (by simpa using hs') hg'
            refine ⟨_, rfl, ?_, RR.of_gr hg' (by omega), rfl⟩
            show BX (fun t0 t1 t2 W => OwnR TPt W B (.slice (some ⟨go, 0, none⟩) ps.length pcap) (ps.set j (cond t0 y0 kx, px, cond t1 y1 lx, cond t2 y2 bx)) ∧ (XK wb Kp W ∧ OwnR TAl W B (.slice aa l.length acap) l)) w0 s (w9.heap.size) li (m8 + 1) ((listed.setIfInBounds 16 true).getD 9 false) ((listed.setIfInBounds 16 true).getD 16 false) ((listed.setIfInBounds 16 true).getD 23 false) ((listed.setIfInBounds 16 true).getD 26 false) ((listed.setIfInBounds 16 true).getD 29 false) ((listed.setIfInBounds 16 true).getD 32 false) W'
            rw [gd_out hs (by decide) (by decide), l0, gd_in hs (by decide), gd_out hs (by decide) (by decide), l2, gd_out hs (by decide) (by decide), gd_out hs (by decide) (by decide), gd_out hs (by decide) (by decide)]
            exact hN
          · refine iv_val ho (by obtain rfl := Option.some.inj ho; rfl) (.pointer (some ⟨s, 0, none⟩)) W ?_ (HKP.out listed 17 _ hs (by decide) (by decide) hB) (RR.refl _ _) rfl
            · intro q hq
              obtain rfl := Option.some.inj ho
              have e0 := hq.tmp 0
              simp at e0
              simp [execOp, e0, go_sem]
          · refine iv_val ho (by obtain rfl := Option.some.inj ho; rfl) (.pointer (some ⟨go, j * 4, none⟩)) W ?_ (HKP.out listed 18 _ hs (by decide) (by decide) hB) (RR.refl _ _) rfl
            · intro q hq
              obtain rfl := Option.some.inj ho
              have e5 := hq.tmp 5
              simp at e5
              simp [execOp, e5, go_sem]
          · have d93 : f 93 = .pointer (some ⟨go, j * 4, none⟩) := hdep ⟨18, .data⟩ (by obtain rfl := Option.some.inj ho; simp) rfl
            refine iv_val ho (by obtain rfl := Option.some.inj ho; rfl) (.pointer (some ⟨go, j * 4, none⟩)) W ?_ (HKP.out listed 19 _ hs (by decide) (by decide) hB) (RR.refl _ _) rfl
            · intro q hq
              obtain rfl := Option.some.inj ho
              have e93 := hq.tmp 93
              simp at e93
              simp [execOp, e93, d93, go_sem]
          · have d94 : f 94 = .pointer (some ⟨go, j * 4, none⟩) := hdep ⟨19, .data⟩ (by obtain rfl := Option.some.inj ho; simp) rfl
            refine iv_val ho (by obtain rfl := Option.some.inj ho; rfl) (.pointer (some ⟨go, j * 4 + 3, none⟩)) W ?_ (HKP.out listed 20 _ hs (by decide) (by decide) hB) (RR.refl _ _) rfl
            · intro q hq
              obtain rfl := Option.some.inj ho
              have e94 := hq.tmp 94
              simp at e94
              simp [execOp, e94, d94, go_sem]
          · have d95 : f 95 = .pointer (some ⟨go, j * 4 + 3, none⟩) := hdep ⟨20, .data⟩ (by obtain rfl := Option.some.inj ho; simp) rfl
            have hO' := hB.own.1
            rw [show listed.getD 32 false = false from (hcl.no (hcl.no (hcl.no hli 22 ⟨21, .data⟩ rfl rfl (by simp) rfl) 23 ⟨22, .data⟩ rfl rfl (by simp) rfl) 32 ⟨23, .data⟩ rfl rfl (by simp) rfl)] at hO'
            have hx0 : (ps.set j (cond (listed.getD 26 false) y0 kx, px, cond (listed.getD 29 false) y1 lx, cond false y2 bx))[j]? = some (cond (listed.getD 26 false) y0 kx, px, cond (listed.getD 29 false) y1 lx, cond false y2 bx) := List.getElem?_set_self hjn
            have y9 : W.cell? ⟨go, j * 4 + 3, none⟩ = some (.int .i64 bx) := (OwnR.cellf TPt.ok hO' (by simp) hx0 (fo := 3) rfl).1
            refine iv_val ho (by obtain rfl := Option.some.inj ho; rfl) (.int .i64 bx) W ?_ (HKP.out listed 21 _ hs (by decide) (by decide) hB) (RR.refl _ _) rfl
            · intro q hq
              obtain rfl := Option.some.inj ho
              have e95 := hq.tmp 95
              simp at e95
              simp [execOp, e95, d95, go_sem, y9]
          · have d96 : f 96 = .int .i64 bx := hdep ⟨21, .data⟩ (by obtain rfl := Option.some.inj ho; simp) rfl
            refine iv_val ho (by obtain rfl := Option.some.inj ho; rfl) (.slice (some ⟨W.heap.size, 0, none⟩) 3 3) (W.alloc (.cells #[.int .i64 bx, .int .i64 (-1 : Int), .int .i64 (720000001 : Int)] 3)) ?_ (HKP.out listed 22 _ hs (by decide) (by decide) (hB.below hK (Bl.alloc (Below.refl _ _) _))) (RR.of_below (Bl.alloc (Below.refl _ _) _)) ⟨⟨_, rfl⟩, Ints.of_blk (blk_new _ _) rfl rfl (by simp) (by omega) hB.size⟩
            · intro q hq
              obtain rfl := Option.some.inj ho
              have e96 := hq.tmp 96
              simp at e96
              simp [execOp, hq.const, e96, d96, go_sem]
          · have d92 : f 92 = .pointer (some ⟨s, 0, none⟩) := hdep ⟨17, .data⟩ (by obtain rfl := Option.some.inj ho; simp) rfl
            obtain ⟨⟨bi, d97⟩, hri⟩ : VLIx (w9.heap.size) [bx, (-1 : Int), (720000001 : Int)] (f 97) W := hdep ⟨22, .data⟩ (by obtain rfl := Option.some.inj ho; simp) rfl
            have l1 : listed.getD 16 false = true := hdl ⟨16, .chain⟩ (by obtain rfl := Option.some.inj ho; simp) rfl
            have l0 : listed.getD 9 false = true := hcl 16 _ rfl l1 ⟨9, .chain⟩ (by simp) rfl
            rw [l0, l1, hli] at hB
            have hS : StrX W s li ((m8 + 1) + 2) := by simpa using hB.str
            refine iv_call ho (by obtain rfl := Option.some.inj ho; rfl) 35 #[.tmp 92, .tmp 97] _ (by obtain rfl := Option.some.inj ho; rfl) (enters_of Tryz.func35 (by kernel_rfl) rfl) #[.pointer (some ⟨s, 0, none⟩), f 97] (by intro q hq; have e92 := hq.tmp 92; simp at e92; have e97 := hq.tmp 97; simp at e97; simp [e92, e97, d92]) _ (HC3.out W (f 97) hS (Rd.mono hri (by omega))) ?_
            rintro e W' ⟨rfl, hs', hg'⟩
            have hN : BX (fun t0 t1 t2 W => OwnR TPt W B (.slice (some ⟨go, 0, none⟩) ps.length pcap) (ps.set j (cond t0 y0 kx, px, cond t1 y1 lx, cond t2 y2 bx)) ∧ (XK wb Kp W ∧ OwnR TAl W B (.slice aa l.length acap) l)) w0 s (w9.heap.size) li (m8 + 1) true true true (listed.getD 26 false) (listed.getD 29 false) (listed.getD 32 false) W' := hB.call hK (by simpa using hs') hg'
            refine ⟨_, rfl, ?_, RR.of_gr hg' (by omega), rfl⟩
            show BX (fun t0 t1 t2 W => OwnR TPt W B (.slice (some ⟨go, 0, none⟩) ps.length pcap) (ps.set j (cond t0 y0 kx, px, cond t1 y1 lx, cond t2 y2 bx)) ∧ (XK wb Kp W ∧ OwnR TAl W B (.slice aa l.length acap) l)) w0 s (w9.heap.size) li (m8 + 1) ((listed.setIfInBounds 23 true).getD 9 false) ((listed.setIfInBounds 23 true).getD 16 false) ((listed.setIfInBounds 23 true).getD 23 false) ((listed.setIfInBounds 23 true).getD 26 false) ((listed.setIfInBounds 23 true).getD 29 false) ((listed.setIfInBounds 23 true).getD 32 false) W'
            rw [gd_out hs (by decide) (by decide), l0, gd_out hs (by decide) (by decide), l1, gd_in hs (by decide), gd_out hs (by decide) (by decide), gd_out hs (by decide) (by decide), gd_out hs (by decide) (by decide)]
            exact hN
          · have d75 : f 75 = .pointer (some ⟨go, j * 4, none⟩) := hdep ⟨0, .data⟩ (by obtain rfl := Option.some.inj ho; simp) rfl
            refine iv_val ho (by obtain rfl := Option.some.inj ho; rfl) (.pointer (some ⟨go, j * 4, none⟩)) W ?_ (HKP.out listed 24 _ hs (by decide) (by decide) hB) (RR.refl _ _) rfl
            · intro q hq
              obtain rfl := Option.some.inj ho
              have e75 := hq.tmp 75
              simp at e75
              simp [execOp, e75, d75, go_sem]
          · have d99 : f 99 = .pointer (some ⟨go, j * 4, none⟩) := hdep ⟨24, .data⟩ (by obtain rfl := Option.some.inj ho; simp) rfl
            refine iv_val ho (by obtain rfl := Option.some.inj ho; rfl) (.pointer (some ⟨go, j * 4, none⟩)) W ?_ (HKP.out listed 25 _ hs (by decide) (by decide) hB) (RR.refl _ _) rfl
            · intro q hq
              obtain rfl := Option.some.inj ho
              have e99 := hq.tmp 99
              simp at e99
              simp [execOp, e99, d99, go_sem]
          · have d100 : f 100 = .pointer (some ⟨go, j * 4, none⟩) := hdep ⟨25, .data⟩ (by obtain rfl := Option.some.inj ho; simp) rfl
            have d84 : f 84 = .string y0 := hdep ⟨9, .data⟩ (by obtain rfl := Option.some.inj ho; simp) rfl
            have hB0 := hB
            rw [hli] at hB
            obtain ⟨hO', hx'⟩ := hB.own
            have hx0 : (ps.set j (cond false y0 kx, px, cond (listed.getD 29 false) y1 lx, cond (listed.getD 32 false) y2 bx))[j]? = some (cond false y0 kx, px, cond (listed.getD 29 false) y1 lx, cond (listed.getD 32 false) y2 bx) := List.getElem?_set_self hjn
            obtain ⟨y9, g9⟩ := OwnR.cellf TPt.ok hO' (by simp) hx0 (fo := 0) rfl
            replace y9 : W.cell? ⟨go, j * 4, none⟩ = some (.string kx) := y9
            replace g9 : W.frozen? ⟨go, j * 4, none⟩ = false := g9
            have hO2 : OwnR TPt (W.setCell ⟨go, j * 4, none⟩ (.string y0)) B (.slice (some ⟨go, 0, none⟩) ps.length pcap) ((ps.set j (cond false y0 kx, px, cond (listed.getD 29 false) y1 lx, cond (listed.getD 32 false) y2 bx)).set j (cond true y0 kx, px, cond (listed.getD 29 false) y1 lx, cond (listed.getD 32 false) y2 bx)) := OwnR.setf TPt.ok hO' (by simp) hx0 (fo := 0) (by decide) rfl
            rw [List.set_set] at hO2
            have hN : BX (fun t0 t1 t2 W => OwnR TPt W B (.slice (some ⟨go, 0, none⟩) ps.length pcap) (ps.set j (cond t0 y0 kx, px, cond t1 y1 lx, cond t2 y2 bx)) ∧ (XK wb Kp W ∧ OwnR TAl W B (.slice aa l.length acap) l)) w0 s (w9.heap.size) li (m8 + 1) (listed.getD 9 false) (listed.getD 16 false) (listed.getD 23 false) true (listed.getD 29 false) (listed.getD 32 false) (W.setCell ⟨go, j * 4, none⟩ (.string y0)) := hB.store (by omega) (by omega) ⟨hO2, HXS.out W _ _ hx'⟩
            have hN2 : BX (fun t0 t1 t2 W => OwnR TPt W B (.slice (some ⟨go, 0, none⟩) ps.length pcap) (ps.set j (cond t0 y0 kx, px, cond t1 y1 lx, cond t2 y2 bx)) ∧ (XK wb Kp W ∧ OwnR TAl W B (.slice aa l.length acap) l)) w0 s (w9.heap.size) li (m8 + 1) ((listed.setIfInBounds 26 true).getD 9 false) ((listed.setIfInBounds 26 true).getD 16 false) ((listed.setIfInBounds 26 true).getD 23 false) ((listed.setIfInBounds 26 true).getD 26 false) ((listed.setIfInBounds 26 true).getD 29 false) ((listed.setIfInBounds 26 true).getD 32 false) (W.setCell ⟨go, j * 4, none⟩ (.string y0)) := by rw [gd_out hs (by decide) (by decide), gd_out hs (by decide) (by decide), gd_out hs (by decide) (by decide), gd_in hs (by decide), gd_out hs (by decide) (by decide), gd_out hs (by decide) (by decide)]; exact hN
            refine iv_skip ho (by obtain rfl := Option.some.inj ho; rfl) (by obtain rfl := Option.some.inj ho; rfl) (W.setCell ⟨go, j * 4, none⟩ (.string y0)) ?_ hN2 ⟨by simp, fun i h1 h2 => Below.heap_setCell _ _ _ _ (by show i ≠ go; omega)⟩ trivial
            · intro q hq
              obtain rfl := Option.some.inj ho
              have e84 := hq.tmp 84
              have e100 := hq.tmp 100
              simp at e84 e100
              simp [execOp, e84, e100, d84, d100, go_sem, y9, g9]
          · have d76 : f 76 = .pointer (some ⟨go, j * 4, none⟩) := hdep ⟨1, .data⟩ (by obtain rfl := Option.some.inj ho; simp) rfl
            refine iv_val ho (by obtain rfl := Option.some.inj ho; rfl) (.pointer (some ⟨go, j * 4, none⟩)) W ?_ (HKP.out listed 27 _ hs (by decide) (by decide) hB) (RR.refl _ _) rfl
            · intro q hq
              obtain rfl := Option.some.inj ho
              have e76 := hq.tmp 76
              simp at e76
              simp [execOp, e76, d76, go_sem]
          · have d101 : f 101 = .pointer (some ⟨go, j * 4, none⟩) := hdep ⟨27, .data⟩ (by obtain rfl := Option.some.inj ho; simp) rfl
            refine iv_val ho (by obtain rfl := Option.some.inj ho; rfl) (.pointer (some ⟨go, j * 4 + 2, none⟩)) W ?_ (HKP.out listed 28 _ hs (by decide) (by decide) hB) (RR.refl _ _) rfl
            · intro q hq
              obtain rfl := Option.some.inj ho
              have e101 := hq.tmp 101
              simp at e101
              simp [execOp, e101, d101, go_sem]
          · have d102 : f 102 = .pointer (some ⟨go, j * 4 + 2, none⟩) := hdep ⟨28, .data⟩ (by obtain rfl := Option.some.inj ho; simp) rfl
            have d91 : f 91 = .int .i64 y1 := hdep ⟨16, .data⟩ (by obtain rfl := Option.some.inj ho; simp) rfl
            have hB0 := hB
            rw [hli] at hB
            obtain ⟨hO', hx'⟩ := hB.own
            have hx0 : (ps.set j (cond (listed.getD 26 false) y0 kx, px, cond false y1 lx, cond (listed.getD 32 false) y2 bx))[j]? = some (cond (listed.getD 26 false) y0 kx, px, cond false y1 lx, cond (listed.getD 32 false) y2 bx) := List.getElem?_set_self hjn
            obtain ⟨y9, g9⟩ := OwnR.cellf TPt.ok hO' (by simp) hx0 (fo := 2) rfl
            replace y9 : W.cell? ⟨go, j * 4 + 2, none⟩ = some (.int .i64 lx) := y9
            replace g9 : W.frozen? ⟨go, j * 4 + 2, none⟩ = false := g9
            have hO2 : OwnR TPt (W.setCell ⟨go, j * 4 + 2, none⟩ (.int .i64 y1)) B (.slice (some ⟨go, 0, none⟩) ps.length pcap) ((ps.set j (cond (listed.getD 26 false) y0 kx, px, cond false y1 lx, cond (listed.getD 32 false) y2 bx)).set j (cond (listed.getD 26 false) y0 kx, px, cond true y1 lx, cond (listed.getD 32 false) y2 bx)) := OwnR.setf TPt.ok hO' (by simp) hx0 (fo := 2) (by decide) rfl
            rw [List.set_set] at hO2
            have hN : BX (fun t0 t1 t2 W => OwnR TPt W B (.slice (some ⟨go, 0, none⟩) ps.length pcap) (ps.set j (cond t0 y0 kx, px, cond t1 y1 lx, cond t2 y2 bx)) ∧ (XK wb Kp W ∧ OwnR TAl W B (.slice aa l.length acap) l)) w0 s (w9.heap.size) li (m8 + 1) (listed.getD 9 false) (listed.getD 16 false) (listed.getD 23 false) (listed.getD 26 false) true (listed.getD 32 false) (W.setCell ⟨go, j * 4 + 2, none⟩ (.int .i64 y1)) := hB.store (by omega) (by omega) ⟨hO2, HXS.out W _ _ hx'⟩
            have hN2 : BX (fun t0 t1 t2 W => OwnR TPt W B (.slice (some ⟨go, 0, none⟩) ps.length pcap) (ps.set j (cond t0 y0 kx, px, cond t1 y1 lx, cond t2 y2 bx)) ∧ (XK wb Kp W ∧ OwnR TAl W B (.slice aa l.length acap) l)) w0 s (w9.heap.size) li (m8 + 1) ((listed.setIfInBounds 29 true).getD 9 false) ((listed.setIfInBounds 29 true).getD 16 false) ((listed.setIfInBounds 29 true).getD 23 false) ((listed.setIfInBounds 29 true).getD 26 false) ((listed.setIfInBounds 29 true).getD 29 false) ((listed.setIfInBounds 29 true).getD 32 false) (W.setCell ⟨go, j * 4 + 2, none⟩ (.int .i64 y1)) := by rw [gd_out hs (by decide) (by decide), gd_out hs (by decide) (by decide), gd_out hs (by decide) (by decide), gd_out hs (by decide) (by decide), gd_in hs (by decide), gd_out hs (by decide) (by decide)]; exact hN
            refine iv_skip ho (by obtain rfl := Option.some.inj ho; rfl) (by obtain rfl := Option.some.inj ho; rfl) (W.setCell ⟨go, j * 4 + 2, none⟩ (.int .i64 y1)) ?_ hN2 ⟨by simp, fun i h1 h2 => Below.heap_setCell _ _ _ _ (by show i ≠ go; omega)⟩ trivial
            · intro q hq
              obtain rfl := Option.some.inj ho
              have e91 := hq.tmp 91
              have e102 := hq.tmp 102
              simp at e91 e102
              simp [execOp, e91, e102, d91, d102, go_sem, y9, g9]
          · have d77 : f 77 = .pointer (some ⟨go, j * 4, none⟩) := hdep ⟨2, .data⟩ (by obtain rfl := Option.some.inj ho; simp) rfl
            refine iv_val ho (by obtain rfl := Option.some.inj ho; rfl) (.pointer (some ⟨go, j * 4, none⟩)) W ?_ (HKP.out listed 30 _ hs (by decide) (by decide) hB) (RR.refl _ _) rfl
            · intro q hq
              obtain rfl := Option.some.inj ho
              have e77 := hq.tmp 77
              simp at e77
              simp [execOp, e77, d77, go_sem]
          · have d103 : f 103 = .pointer (some ⟨go, j * 4, none⟩) := hdep ⟨30, .data⟩ (by obtain rfl := Option.some.inj ho; simp) rfl
            refine iv_val ho (by obtain rfl := Option.some.inj ho; rfl) (.pointer (some ⟨go, j * 4 + 3, none⟩)) W ?_ (HKP.out listed 31 _ hs (by decide) (by decide) hB) (RR.refl _ _) rfl
            · intro q hq
              obtain rfl := Option.some.inj ho
              have e103 := hq.tmp 103
              simp at e103
              simp [execOp, e103, d103, go_sem]
          · have d104 : f 104 = .pointer (some ⟨go, j * 4 + 3, none⟩) := hdep ⟨31, .data⟩ (by obtain rfl := Option.some.inj ho; simp) rfl
            have d98 : f 98 = .int .i64 y2 := hdep ⟨23, .data⟩ (by obtain rfl := Option.some.inj ho; simp) rfl
            have hB0 := hB
            rw [hli] at hB
            obtain ⟨hO', hx'⟩ := hB.own
            have hx0 : (ps.set j (cond (listed.getD 26 false) y0 kx, px, cond (listed.getD 29 false) y1 lx, cond false y2 bx))[j]? = some (cond (listed.getD 26 false) y0 kx, px, cond (listed.getD 29 false) y1 lx, cond false y2 bx) := List.getElem?_set_self hjn
            obtain ⟨y9, g9⟩ := OwnR.cellf TPt.ok hO' (by simp) hx0 (fo := 3) rfl
            replace y9 : W.cell? ⟨go, j * 4 + 3, none⟩ = some (.int .i64 bx) := y9
            replace g9 : W.frozen? ⟨go, j * 4 + 3, none⟩ = false := g9
            have hO2 : OwnR TPt (W.setCell ⟨go, j * 4 + 3, none⟩ (.int .i64 y2)) B (.slice (some ⟨go, 0, none⟩) ps.length pcap) ((ps.set j (cond (listed.getD 26 false) y0 kx, px, cond (listed.getD 29 false) y1 lx, cond false y2 bx)).set j (cond (listed.getD 26 false) y0 kx, px, cond (listed.getD 29 false) y1 lx, cond true y2 bx)) := OwnR.setf TPt.ok hO' (by simp) hx0 (fo := 3) (by decide) rfl
            rw [List.set_set] at hO2
            have hN : BX (fun t0 t1 t2 W => OwnR TPt W B (.slice (some ⟨go, 0, none⟩) ps.length pcap) (ps.set j (cond t0 y0 kx, px, cond t1 y1 lx, cond t2 y2 bx)) ∧ (XK wb Kp W ∧ OwnR TAl W B (.slice aa l.length acap) l)) w0 s (w9.heap.size) li (m8 + 1) (listed.getD 9 false) (listed.getD 16 false) (listed.getD 23 false) (listed.getD 26 false) (listed.getD 29 false) true (W.setCell ⟨go, j * 4 + 3, none⟩ (.int .i64 y2)) := hB.store (by omega) (by omega) ⟨hO2, HXS.out W _ _ hx'⟩
            have hN2 : BX (fun t0 t1 t2 W => OwnR TPt W B (.slice (some ⟨go, 0, none⟩) ps.length pcap) (ps.set j (cond t0 y0 kx, px, cond t1 y1 lx, cond t2 y2 bx)) ∧ (XK wb Kp W ∧ OwnR TAl W B (.slice aa l.length acap) l)) w0 s (w9.heap.size) li (m8 + 1) ((listed.setIfInBounds 32 true).getD 9 false) ((listed.setIfInBounds 32 true).getD 16 false) ((listed.setIfInBounds 32 true).getD 23 false) ((listed.setIfInBounds 32 true).getD 26 false) ((listed.setIfInBounds 32 true).getD 29 false) ((listed.setIfInBounds 32 true).getD 32 false) (W.setCell ⟨go, j * 4 + 3, none⟩ (.int .i64 y2)) := by rw [gd_out hs (by decide) (by decide), gd_out hs (by decide) (by decide), gd_out hs (by decide) (by decide), gd_out hs (by decide) (by decide), gd_out hs (by decide) (by decide), gd_in hs (by decide)]; exact hN
            refine iv_skip ho (by obtain rfl := Option.some.inj ho; rfl) (by obtain rfl := Option.some.inj ho; rfl) (W.setCell ⟨go, j * 4 + 3, none⟩ (.int .i64 y2)) ?_ hN2 ⟨by simp, fun i h1 h2 => Below.heap_setCell _ _ _ _ (by show i ≠ go; omega)⟩ trivial
            · intro q hq
              obtain rfl := Option.some.inj ho
              have e98 := hq.tmp 98
              have e104 := hq.tmp 104
              simp at e98 e104
              simp [execOp, e98, e104, d98, d104, go_sem, y9, g9]
        intro listed f wz hall hB' hV
        replace hB' : BX (fun t0 t1 t2 W => OwnR TPt W B (.slice (some ⟨go, 0, none⟩) ps.length pcap) (ps.set j (cond t0 y0 kx, px, cond t1 y1 lx, cond t2 y2 bx)) ∧ (XK wb Kp W ∧ OwnR TAl W B (.slice aa l.length acap) l)) w0 s (w9.heap.size) li (m8 + 1) (listed.getD 9 false) (listed.getD 16 false) (listed.getD 23 false) (listed.getD 26 false) (listed.getD 29 false) (listed.getD 32 false) wz := hB'
        rw [show listed.getD 9 false = true from hall 9 (by decide), show listed.getD 16 false = true from hall 16 (by decide), show listed.getD 23 false = true from hall 23 (by decide), show listed.getD 26 false = true from hall 26 (by decide), show listed.getD 29 false = true from hall 29 (by decide), show listed.getD 32 false = true from hall 32 (by decide)] at hB'
        unfold putsA
        simp only [List.mapIdx_toArray, List.mapIdx_cons, List.mapIdx_nil, List.contains_cons]
        simp
        obtain ⟨hSz, ⟨hOz, hXz⟩, _, hGz⟩ := hB'
        have HF := Lib.hid (show OwnR TPt wz B (.slice (some ⟨go, 0, none⟩) ps.length pcap) SX.1 ∧ OwnR TAl wz B (.slice aa l.length acap) SX.2.1 ∧ XK wb Kp wz ∧ StrX wz s li SX.2.2 ∧ w0.grownBy wz (some s) from by
          rw [HSX.out, HR.out, spP_at HJX.out.1 HJX.out.2]
          obtain ⟨e0, e1, e2⟩ := HY.out
          rw [e0, e1, e2] at hOz
          exact ⟨hOz, hXz.2, hXz.1, hSz, hGz⟩)
        clear hSz hOz hGz hXz hV hK hO9' hS9 hG9 hall
        go_wp2
        go_end0
        exact ⟨rfl, HF.out.1, HF.out.2.1, HF.out.2.2.1, HF.out.2.2.2.1, HF.out.2.2.2.2⟩
    · have HR : Hid (spoilX li m ps l = (ps, (spA li m8 l).1, (spA li m8 l).2)) := Lib.hid (by rw [HM8.out]; exact spoilX_a h0 HFE.out.symm)
      go_wp2_with fail
      have hne : l ≠ [] := fun e => h0 (by rw [e]; rfl)
      obtain ⟨go, cap, cur, hoa, hgo, hgb, _, _⟩ := ha8.blk hne
      injection hoa with hoa1 _ hoa2
      subst hoa1 hoa2
      have HOTY : Hid (∀ k, (Value.slice pa ps.length pcap).ownBlock = some k → k ≠ go) := Lib.hid fun k hk e => by
        subst e
        obtain ⟨_, c1, h1⟩ := (ownR_k TPt B).blk hp8 hk
        rw [hgb] at h1
        injection h1 with h1
        injection h1 with _ e2 _
        exact absurd e2 (by decide)
      clear hgb
      have ls8 := hS8.lt
      have hsg : s < go := by omega
      obtain ⟨j, hj⟩ : ∃ j, j = (nxX li m8 l.length).toNat := ⟨_, rfl⟩
      obtain ⟨hj1, hj2⟩ := nxX_rng li m8 l.length
      have hjI : ((j : Nat) : Int) = nxX li m8 l.length := by rw [hj]; omega
      have hjn : j < l.length := by omega
      obtain ⟨x, hx⟩ : ∃ x, l[j]? = some x := ⟨_, List.getElem?_eq_getElem hjn⟩
      obtain ⟨kx, bx, ox⟩ := x
      have HJX := Lib.hid (And.intro hj hx)
      have HC0 : Hid (∀ W, StrX W s li (m8 + 0) → Calls Tryz.prog 23 #[.pointer (some ⟨s, 0, none⟩), .int .i64 l.length] W fun e w' => e = .returned (.int .i64 j) ∧ StrX w' s li (m8 + 0 + 1) ∧ W.grownBy w' (some s)) := Lib.hid fun W hS => by
        rw [hjI]
        exact Next_x s m8 li _ W hS (by omega) (by omega)
      have HXC : Hid (∀ W, (XK wb Kp W ∧ OwnR TPt W B (.slice pa ps.length pcap) ps) → ∀ W', Below W.heap.size W W' → (XK wb Kp W' ∧ OwnR TPt W' B (.slice pa ps.length pcap) ps)) := Lib.hid fun W hW W' hb => ⟨hW.1.below HKP9.out hb, hW.2.below hb⟩
      have HXG : Hid (∀ W, (XK wb Kp W ∧ OwnR TPt W B (.slice pa ps.length pcap) ps) → ∀ W', W.grownBy W' (some s) → (XK wb Kp W' ∧ OwnR TPt W' B (.slice pa ps.length pcap) ps)) := Lib.hid fun W hW W' hb => ⟨hW.1.gr HKP9.out hb, hW.2.grown hb (by omega)⟩
      have hK : ∀ a b c : Bool, OwnK ((fun _ _ _ W => OwnR TAl W B (.slice (some ⟨go, 0, none⟩) l.length acap) l ∧ (XK wb Kp W ∧ OwnR TPt W B (.slice pa ps.length pcap) ps) : Bool → Bool → Bool → World → Prop) a b c) s := fun _ _ _ => ⟨fun W W' h hb => ⟨h.1.below hb, HXC.out W h.2 W' hb⟩, fun W W' h hg => ⟨h.1.grown hg (by omega), HXG.out W h.2 W' hg⟩⟩
      have HKP : Hid (∀ (listed : Array Bool) (i : Nat) (W : World), listed.size = 13 → i < 13 → i ∉ ([10] : List Nat) → BX (fun _ _ _ W => OwnR TAl W B (.slice (some ⟨go, 0, none⟩) l.length acap) l ∧ (XK wb Kp W ∧ OwnR TPt W B (.slice pa ps.length pcap) ps)) w0 s (w8.heap.size) li m8 (listed.getD 10 false) false false false false false W → BX (fun _ _ _ W => OwnR TAl W B (.slice (some ⟨go, 0, none⟩) l.length acap) l ∧ (XK wb Kp W ∧ OwnR TPt W B (.slice pa ps.length pcap) ps)) w0 s (w8.heap.size) li m8 ((listed.setIfInBounds i true).getD 10 false) false false false false false W) := Lib.hid fun listed i W hs hi hn h => by
        rw [gd_out hs hi (fun e => hn (by rw [← e]; decide))]
        exact h
      refine wp_region_sx (by kernel_rfl) [16, 17, 18, 19, 20, 21, 22, 23, 24, 25, 26, 27, 4] (fun (listed : Array Bool) (W : World) => BX (fun _ _ _ W => OwnR TAl W B (.slice (some ⟨go, 0, none⟩) l.length acap) l ∧ (XK wb Kp W ∧ OwnR TPt W B (.slice pa ps.length pcap) ps)) w0 s (w8.heap.size) li m8 (listed.getD 10 false) false false false false false W) (RR (w8.heap.size)) (fun i => [VE (.pointer (some ⟨C, 0, none⟩)), VE (.pointer (some ⟨C, 0, none⟩)), VE (.pointer (some ⟨C, 1, none⟩)), VE (.slice (some ⟨go, 0, none⟩) l.length acap), VE (.pointer (some ⟨s, 0, none⟩)), VE (.pointer (some ⟨C, 0, none⟩)), VE (.pointer (some ⟨C, 0, none⟩)), VE (.pointer (some ⟨C, 1, none⟩)), VE (.slice (some ⟨go, 0, none⟩) l.length acap), VE (.int .i64 l.length), VE (.int .i64 j), VE (.pointer (some ⟨go, j * 3, none⟩)), VE (.pointer (some ⟨go, j * 3, none⟩))].getD i VT) (by kernel_rfl) (by kernel_rfl) ?_ ?_ ?_ ?_ ?_
      · simp only [gd_start]
        exact ⟨by simpa using hS8.drew, ⟨ha8, ⟨hX8, hp8⟩⟩, Nat.le_refl _, ⟨hG8.os, hG8.tape, hG8.output, hG8.size, hG8.block⟩⟩
      · intro listed W W' i v hB hR hV
        exact match i, hV with
          | 0, h => h
          | 1, h => h
          | 2, h => h
          | 3, h => h
          | 4, h => h
          | 5, h => h
          | 6, h => h
          | 7, h => h
          | 8, h => h
          | 9, h => h
          | 10, h => h
          | 11, h => h
          | 12, h => h
          | (_ + 13), _ => trivial
      · intro i o v W ho hd
        match i, ho with
          | 0, ho => (obtain rfl := Option.some.inj ho; cases hd)
          | 1, ho => (obtain rfl := Option.some.inj ho; cases hd)
          | 2, ho => (obtain rfl := Option.some.inj ho; cases hd)
          | 3, ho => (obtain rfl := Option.some.inj ho; cases hd)
          | 4, ho => (obtain rfl := Option.some.inj ho; cases hd)
          | 5, ho => (obtain rfl := Option.some.inj ho; cases hd)
          | 6, ho => (obtain rfl := Option.some.inj ho; cases hd)
          | 7, ho => (obtain rfl := Option.some.inj ho; cases hd)
          | 8, ho => (obtain rfl := Option.some.inj ho; cases hd)
          | 9, ho => (obtain rfl := Option.some.inj ho; cases hd)
          | 10, ho => (obtain rfl := Option.some.inj ho; cases hd)
          | 11, ho => (obtain rfl := Option.some.inj ho; cases hd)
          | 12, ho => (obtain rfl := Option.some.inj ho; cases hd)
          | (_ + 13), _ => trivial
      · intro listed i o f W ho hi hs hli hcl hdl hB hdep
        replace hs : listed.size = 13 := hs
        replace hB : BX (fun _ _ _ W => OwnR TAl W B (.slice (some ⟨go, 0, none⟩) l.length acap) l ∧ (XK wb Kp W ∧ OwnR TPt W B (.slice pa ps.length pcap) ps)) w0 s (w8.heap.size) li m8 (listed.getD 10 false) false false false false false W := hB
        have hi' : i = 0 ∨ i = 1 ∨ i = 2 ∨ i = 3 ∨ i = 4 ∨ i = 5 ∨ i = 6 ∨ i = 7 ∨ i = 8 ∨ i = 9 ∨ i = 10 ∨ i = 11 ∨ i = 12 := by
          have : i < 13 := hi
          omega
        rcases hi' with rfl | rfl | rfl | rfl | rfl | rfl | rfl | rfl | rfl | rfl | rfl | rfl | rfl
        · refine iv_val ho (by obtain rfl := Option.some.inj ho; rfl) (.pointer (some ⟨C, 0, none⟩)) W ?_ (HKP.out listed 0 _ hs (by decide) (by decide) hB) (RR.refl _ _) rfl
          · intro q hq
            obtain rfl := Option.some.inj ho
            have e1 := hq.tmp 1
            simp at e1
            simp [execOp, e1, go_sem]
        · have d16 : f 16 = .pointer (some ⟨C, 0, none⟩) := hdep ⟨0, .data⟩ (by obtain rfl := Option.some.inj ho; simp) rfl
          refine iv_val ho (by obtain rfl := Option.some.inj ho; rfl) (.pointer (some ⟨C, 0, none⟩)) W ?_ (HKP.out listed 1 _ hs (by decide) (by decide) hB) (RR.refl _ _) rfl
          · intro q hq
            obtain rfl := Option.some.inj ho
            have e16 := hq.tmp 16
            simp at e16
            simp [execOp, e16, d16, go_sem]
        · have d17 : f 17 = .pointer (some ⟨C, 0, none⟩) := hdep ⟨1, .data⟩ (by obtain rfl := Option.some.inj ho; simp) rfl
          refine iv_val ho (by obtain rfl := Option.some.inj ho; rfl) (.pointer (some ⟨C, 1, none⟩)) W ?_ (HKP.out listed 2 _ hs (by decide) (by decide) hB) (RR.refl _ _) rfl
          · intro q hq
            obtain rfl := Option.some.inj ho
            have e17 := hq.tmp 17
            simp at e17
            simp [execOp, e17, d17, go_sem]
        · have d18 : f 18 = .pointer (some ⟨C, 1, none⟩) := hdep ⟨2, .data⟩ (by obtain rfl := Option.some.inj ho; simp) rfl
          have y9 := (HCC.out W hB.own.2.1).2.1
          refine iv_val ho (by obtain rfl := Option.some.inj ho; rfl) (.slice (some ⟨go, 0, none⟩) l.length acap) W ?_ (HKP.out listed 3 _ hs (by decide) (by decide) hB) (RR.refl _ _) rfl
          · intro q hq
            obtain rfl := Option.some.inj ho
            have e18 := hq.tmp 18
            simp at e18
            simp [execOp, e18, d18, go_sem, y9]
        · refine iv_val ho (by obtain rfl := Option.some.inj ho; rfl) (.pointer (some ⟨s, 0, none⟩)) W ?_ (HKP.out listed 4 _ hs (by decide) (by decide) hB) (RR.refl _ _) rfl
          · intro q hq
            obtain rfl := Option.some.inj ho
            have e0 := hq.tmp 0
            simp at e0
            simp [execOp, e0, go_sem]
        · refine iv_val ho (by obtain rfl := Option.some.inj ho; rfl) (.pointer (some ⟨C, 0, none⟩)) W ?_ (HKP.out listed 5 _ hs (by decide) (by decide) hB) (RR.refl _ _) rfl
          · intro q hq
            obtain rfl := Option.some.inj ho
            have e1 := hq.tmp 1
            simp at e1
            simp [execOp, e1, go_sem]
        · have d21 : f 21 = .pointer (some ⟨C, 0, none⟩) := hdep ⟨5, .data⟩ (by obtain rfl := Option.some.inj ho; simp) rfl
          refine iv_val ho (by obtain rfl := Option.some.inj ho; rfl) (.pointer (some ⟨C, 0, none⟩)) W ?_ (HKP.out listed 6 _ hs (by decide) (by decide) hB) (RR.refl _ _) rfl
          · intro q hq
            obtain rfl := Option.some.inj ho
            have e21 := hq.tmp 21
            simp at e21
            simp [execOp, e21, d21, go_sem]
        · have d22 : f 22 = .pointer (some ⟨C, 0, none⟩) := hdep ⟨6, .data⟩ (by obtain rfl := Option.some.inj ho; simp) rfl
          refine iv_val ho (by obtain rfl := Option.some.inj ho; rfl) (.pointer (some ⟨C, 1, none⟩)) W ?_ (HKP.out listed 7 _ hs (by decide) (by decide) hB) (RR.refl _ _) rfl
          · intro q hq
            obtain rfl := Option.some.inj ho
            have e22 := hq.tmp 22
            simp at e22
            simp [execOp, e22, d22, go_sem]
        · have d23 : f 23 = .pointer (some ⟨C, 1, none⟩) := hdep ⟨7, .data⟩ (by obtain rfl := Option.some.inj ho; simp) rfl
          have y9 := (HCC.out W hB.own.2.1).2.1
          refine iv_val ho (by obtain rfl := Option.some.inj ho; rfl) (.slice (some ⟨go, 0, none⟩) l.length acap) W ?_ (HKP.out listed 8 _ hs (by decide) (by decide) hB) (RR.refl _ _) rfl
          · intro q hq
            obtain rfl := Option.some.inj ho
            have e23 := hq.tmp 23
            simp at e23
            simp [execOp, e23, d23, go_sem, y9]
        · have d24 : f 24 = .slice (some ⟨go, 0, none⟩) l.length acap := hdep ⟨8, .data⟩ (by obtain rfl := Option.some.inj ho; simp) rfl
          refine iv_val ho (by obtain rfl := Option.some.inj ho; rfl) (.int .i64 l.length) W ?_ (HKP.out listed 9 _ hs (by decide) (by decide) hB) (RR.refl _ _) rfl
          · intro q hq
            obtain rfl := Option.some.inj ho
            have e24 := hq.tmp 24
            simp at e24
            simp [execOp, e24, d24, go_sem, resolve, invoke, builtin]
        · have d20 : f 20 = .pointer (some ⟨s, 0, none⟩) := hdep ⟨4, .data⟩ (by obtain rfl := Option.some.inj ho; simp) rfl
          have d25 : f 25 = .int .i64 l.length := hdep ⟨9, .data⟩ (by obtain rfl := Option.some.inj ho; simp) rfl
          rw [hli] at hB
          have hS : StrX W s li (m8 + 0) := by simpa using hB.str
          refine iv_call ho (by obtain rfl := Option.some.inj ho; rfl) 23 #[.tmp 20, .tmp 25] _ (by obtain rfl := Option.some.inj ho; rfl) (enters_of Tryz.func23 (by kernel_rfl) rfl) #[.pointer (some ⟨s, 0, none⟩), .int .i64 l.length] (by intro q hq; have e20 := hq.tmp 20; simp at e20; have e25 := hq.tmp 25; simp at e25; simp [e20, e25, d20, d25]) _ (HC0.out W hS) ?_
          rintro e W' ⟨rfl, hs', hg'⟩
          have hN : BX (fun _ _ _ W => OwnR TAl W B (.slice (some ⟨go, 0, none⟩) l.length acap) l ∧ (XK wb Kp W ∧ OwnR TPt W B (.slice pa ps.length pcap) ps)) w0 s (w8.heap.size) li m8 true false false false false false W' := hB.call hK (by simpa using hs') hg'
          refine ⟨_, rfl, ?_, RR.of_gr hg' (by omega), rfl⟩
          show BX (fun _ _ _ W => OwnR TAl W B (.slice (some ⟨go, 0, none⟩) l.length acap) l ∧ (XK wb Kp W ∧ OwnR TPt W B (.slice pa ps.length pcap) ps)) w0 s (w8.heap.size) li m8 ((listed.setIfInBounds 10 true).getD 10 false) false false false false false W'
          rw [gd_in hs (by decide)]
          exact hN
        · have d19 : f 19 = .slice (some ⟨go, 0, none⟩) l.length acap := hdep ⟨3, .data⟩ (by obtain rfl := Option.some.inj ho; simp) rfl
          have d26 : f 26 = .int .i64 j := hdep ⟨10, .data⟩ (by obtain rfl := Option.some.inj ho; simp) rfl
          have i1 : (0 : Int) ≤ (j : Int) := by omega
          have i2 : (j : Int) < (l.length : Int) := by omega
          refine iv_val ho (by obtain rfl := Option.some.inj ho; rfl) (.pointer (some ⟨go, j * 3, none⟩)) W ?_ (HKP.out listed 11 _ hs (by decide) (by decide) hB) (RR.refl _ _) rfl
          · intro q hq
            obtain rfl := Option.some.inj ho
            have e19 := hq.tmp 19
            have e26 := hq.tmp 26
            simp at e19 e26
            simp [execOp, e19, e26, d19, d26, go_sem, i1, i2]
        · have d27 : f 27 = .pointer (some ⟨go, j * 3, none⟩) := hdep ⟨11, .data⟩ (by obtain rfl := Option.some.inj ho; simp) rfl
          refine iv_val ho (by obtain rfl := Option.some.inj ho; rfl) (.pointer (some ⟨go, j * 3, none⟩)) W ?_ (HKP.out listed 12 _ hs (by decide) (by decide) hB) (RR.refl _ _) rfl
          · intro q hq
            obtain rfl := Option.some.inj ho
            have e27 := hq.tmp 27
            simp at e27
            simp [execOp, e27, d27, go_sem]
      intro listed9 f9 w9 hall hB9 hV9
      have hd4 : f9 4 = .pointer (some ⟨go, j * 3, none⟩) := hV9 12 (by decide)
      have hl9 : listed9.getD 10 false = true := hall 10 (by decide)
      replace hB9 : BX (fun _ _ _ W => OwnR TAl W B (.slice (some ⟨go, 0, none⟩) l.length acap) l ∧ (XK wb Kp W ∧ OwnR TPt W B (.slice pa ps.length pcap) ps)) w0 s (w8.heap.size) li m8 (listed9.getD 10 false) false false false false false w9 := hB9
      rw [hl9] at hB9
      unfold putsA
      simp only [List.mapIdx_toArray, List.mapIdx_cons, List.mapIdx_nil, List.contains_cons]
      simp
      rw [hd4]
      obtain ⟨hS9, ⟨hO9, hX9⟩, hz9, hG9⟩ := hB9
      replace hS9 : StrX w9 s li (m8 + 1) := hS9
      have ls9 := hS9.lt
      have lgo9 : go < w9.heap.size := (World.ownsRow.lt hO9 go rfl).2
      have HXS : Hid (∀ W o v, (XK wb Kp W ∧ OwnR TPt W B (.slice pa ps.length pcap) ps) → (XK wb Kp (W.setCell ⟨go, o, none⟩ v) ∧ OwnR TPt (W.setCell ⟨go, o, none⟩ v) B (.slice pa ps.length pcap) ps)) := Lib.hid fun W o v hW => ⟨hW.1.set HKP9.out hgo o v, (ownR_k TPt B).keep hW.2 fun k hk => Below.heap_setCell _ ⟨go, o, none⟩ _ k (HOTY.out k hk)⟩
      clear hV9 hd4 hall hl9 hX8 hS8 hp8 ha8 hG8 hK HKP HC0
      obtain ⟨y0, hy0⟩ : ∃ q, q = smX li (m8 + 1) [kx, bx, ⟨#[122, 122]⟩] := ⟨_, rfl⟩
      obtain ⟨y1, hy1⟩ : ∃ q, q = smX li (m8 + 1 + 1) [bx, ⟨#[97]⟩, ⟨#[98]⟩] := ⟨_, rfl⟩
      obtain ⟨y2, hy2⟩ : ∃ q, q = flX li (m8 + 1 + 2) 2 := ⟨_, rfl⟩
      have HY := Lib.hid (And.intro hy0 (And.intro hy1 hy2))
      have HC1 : Hid (∀ W v, StrX W s li (m8 + 1 + 0) → RecR TS W (s + 1) v [kx, bx, (⟨#[122, 122]⟩ : ByteArray)] → Calls Tryz.prog 34 #[.pointer (some ⟨s, 0, none⟩), v] W fun e w' => e = .returned (.string y0) ∧ StrX w' s li (m8 + 1 + 0 + 1) ∧ W.grownBy w' (some s)) := Lib.hid fun W v hS hr => by
        rw [hy0]
        exact Some_x s _ li _ v W hS (by omega) hr (by simp) (by simp)
      have HC2 : Hid (∀ W v, StrX W s li (m8 + 1 + 1) → RecR TS W (s + 1) v [bx, (⟨#[97]⟩ : ByteArray), (⟨#[98]⟩ : ByteArray)] → Calls Tryz.prog 34 #[.pointer (some ⟨s, 0, none⟩), v] W fun e w' => e = .returned (.string y1) ∧ StrX w' s li (m8 + 1 + 1 + 1) ∧ W.grownBy w' (some s)) := Lib.hid fun W v hS hr => by
        rw [hy1]
        exact Some_x s _ li _ v W hS (by omega) hr (by simp) (by simp)
      have HC3 : Hid (∀ W, StrX W s li (m8 + 1 + 2) → Calls Tryz.prog 36 #[.pointer (some ⟨s, 0, none⟩), .int .i64 2] W fun e w' => e = .returned (.bool y2) ∧ StrX w' s li (m8 + 1 + 2 + 1) ∧ W.grownBy w' (some s)) := Lib.hid fun W hS => by
        rw [hy2]
        exact Flip_x s _ li _ W hS (by omega) (by omega)
      have hsj : l.set j (kx, bx, ox) = l := by
        obtain ⟨h1, h2⟩ := List.getElem?_eq_some_iff.1 HJX.out.2
        rw [← h2]
        exact List.set_getElem_self h1
      have hO9' : OwnR TAl w9 B (.slice (some ⟨go, 0, none⟩) l.length acap) (l.set j (kx, bx, ox)) := by rw [hsj]; exact hO9
      have hK : ∀ a b c : Bool, OwnK (((fun t0 t1 t2 W => OwnR TAl W B (.slice (some ⟨go, 0, none⟩) l.length acap) (l.set j (cond t0 y0 kx, cond t1 y1 bx, cond t2 y2 ox)) ∧ (XK wb Kp W ∧ OwnR TPt W B (.slice pa ps.length pcap) ps)) : Bool → Bool → Bool → World → Prop) a b c) s := fun _ _ _ => ⟨fun W W' h hb => ⟨h.1.below hb, HXC.out W h.2 W' hb⟩, fun W W' h hg => ⟨h.1.grown hg (by omega), HXG.out W h.2 W' hg⟩⟩
      clear hsj hO9 hy0 hy1 hy2 hj hx hjI hj1 hj2
      go_wp2
      have HKP : Hid (∀ (listed : Array Bool) (i : Nat) (W : World), listed.size = 32 → i < 32 → i ∉ ([13, 20, 22, 25, 28, 31] : List Nat) → BX (fun t0 t1 t2 W => OwnR TAl W B (.slice (some ⟨go, 0, none⟩) l.length acap) (l.set j (cond t0 y0 kx, cond t1 y1 bx, cond t2 y2 ox)) ∧ (XK wb Kp W ∧ OwnR TPt W B (.slice pa ps.length pcap) ps)) w0 s (w9.heap.size) li (m8 + 1) (listed.getD 13 false) (listed.getD 20 false) (listed.getD 22 false) (listed.getD 25 false) (listed.getD 28 false) (listed.getD 31 false) W → BX (fun t0 t1 t2 W => OwnR TAl W B (.slice (some ⟨go, 0, none⟩) l.length acap) (l.set j (cond t0 y0 kx, cond t1 y1 bx, cond t2 y2 ox)) ∧ (XK wb Kp W ∧ OwnR TPt W B (.slice pa ps.length pcap) ps)) w0 s (w9.heap.size) li (m8 + 1) ((listed.setIfInBounds i true).getD 13 false) ((listed.setIfInBounds i true).getD 20 false) ((listed.setIfInBounds i true).getD 22 false) ((listed.setIfInBounds i true).getD 25 false) ((listed.setIfInBounds i true).getD 28 false) ((listed.setIfInBounds i true).getD 31 false) W) := Lib.hid fun listed i W hs hi hn h => by
        rw [gd_out hs hi (fun e => hn (by rw [← e]; decide)), gd_out hs hi (fun e => hn (by rw [← e]; decide)), gd_out hs hi (fun e => hn (by rw [← e]; decide)), gd_out hs hi (fun e => hn (by rw [← e]; decide)), gd_out hs hi (fun e => hn (by rw [← e]; decide)), gd_out hs hi (fun e => hn (by rw [← e]; decide))]
        exact h
      refine wp_region_sx (by kernel_rfl) [28, 29, 30, 31, 32, 33, 34, 35, 36, 37, 38, 39, 40, 41, 42, 43, 44, 45, 46, 47, 48, 49, 50, 51, 52, 53, 54, 55, 56] (fun (listed : Array Bool) (W : World) => BX (fun t0 t1 t2 W => OwnR TAl W B (.slice (some ⟨go, 0, none⟩) l.length acap) (l.set j (cond t0 y0 kx, cond t1 y1 bx, cond t2 y2 ox)) ∧ (XK wb Kp W ∧ OwnR TPt W B (.slice pa ps.length pcap) ps)) w0 s (w9.heap.size) li (m8 + 1) (listed.getD 13 false) (listed.getD 20 false) (listed.getD 22 false) (listed.getD 25 false) (listed.getD 28 false) (listed.getD 31 false) W) (RR (w9.heap.size)) (fun i => [VE (.pointer (some ⟨go, j * 3, none⟩)), VE (.pointer (some ⟨go, j * 3, none⟩)), VE (.pointer (some ⟨go, j * 3, none⟩)), VE (.pointer (some ⟨s, 0, none⟩)), VE (.pointer (some ⟨go, j * 3, none⟩)), VE (.pointer (some ⟨go, j * 3, none⟩)), VE (.pointer (some ⟨go, j * 3, none⟩)), VE (.string kx), VE (.pointer (some ⟨go, j * 3, none⟩)), VE (.pointer (some ⟨go, j * 3, none⟩)), VE (.pointer (some ⟨go, j * 3 + 1, none⟩)), VE (.string bx), VLSx (w9.heap.size) [kx, bx, (⟨#[122, 122]⟩ : ByteArray)], VE (.string y0), VE (.pointer (some ⟨s, 0, none⟩)), VE (.pointer (some ⟨go, j * 3, none⟩)), VE (.pointer (some ⟨go, j * 3, none⟩)), VE (.pointer (some ⟨go, j * 3 + 1, none⟩)), VE (.string bx), VLSx (w9.heap.size) [bx, (⟨#[97]⟩ : ByteArray), (⟨#[98]⟩ : ByteArray)], VE (.string y1), VE (.pointer (some ⟨s, 0, none⟩)), VE (.bool y2), VE (.pointer (some ⟨go, j * 3, none⟩)), VE (.pointer (some ⟨go, j * 3, none⟩)), VT, VE (.pointer (some ⟨go, j * 3, none⟩)), VE (.pointer (some ⟨go, j * 3 + 1, none⟩)), VT, VE (.pointer (some ⟨go, j * 3, none⟩)), VE (.pointer (some ⟨go, j * 3 + 2, none⟩)), VT].getD i VT) (by kernel_rfl) (by kernel_rfl) ?_ ?_ ?_ ?_ ?_
      · simp only [gd_start]
        exact ⟨by simpa using hS9.drew, ⟨hO9', hX9⟩, Nat.le_refl _, ⟨hG9.os, hG9.tape, hG9.output, hG9.size, hG9.block⟩⟩
      · intro listed W W' i v hB hR hV
        exact match i, hV with
          | 0, h => h
          | 1, h => h
          | 2, h => h
          | 3, h => h
          | 4, h => h
          | 5, h => h
          | 6, h => h
          | 7, h => h
          | 8, h => h
          | 9, h => h
          | 10, h => h
          | 11, h => h
          | 12, h => VLSx.stab h hR
          | 13, h => h
          | 14, h => h
          | 15, h => h
          | 16, h => h
          | 17, h => h
          | 18, h => h
          | 19, h => VLSx.stab h hR
          | 20, h => h
          | 21, h => h
          | 22, h => h
          | 23, h => h
          | 24, h => h
          | 25, h => h
          | 26, h => h
          | 27, h => h
          | 28, h => h
          | 29, h => h
          | 30, h => h
          | 31, h => h
          | (_ + 32), _ => trivial
      · intro i o v W ho hd
        match i, ho with
          | 0, ho => (obtain rfl := Option.some.inj ho; cases hd)
          | 1, ho => (obtain rfl := Option.some.inj ho; cases hd)
          | 2, ho => (obtain rfl := Option.some.inj ho; cases hd)
          | 3, ho => (obtain rfl := Option.some.inj ho; cases hd)
          | 4, ho => (obtain rfl := Option.some.inj ho; cases hd)
          | 5, ho => (obtain rfl := Option.some.inj ho; cases hd)
          | 6, ho => (obtain rfl := Option.some.inj ho; cases hd)
          | 7, ho => (obtain rfl := Option.some.inj ho; cases hd)
          | 8, ho => (obtain rfl := Option.some.inj ho; cases hd)
          | 9, ho => (obtain rfl := Option.some.inj ho; cases hd)
          | 10, ho => (obtain rfl := Option.some.inj ho; cases hd)
          | 11, ho => (obtain rfl := Option.some.inj ho; cases hd)
          | 12, ho => (obtain rfl := Option.some.inj ho; cases hd)
          | 13, ho => (obtain rfl := Option.some.inj ho; cases hd)
          | 14, ho => (obtain rfl := Option.some.inj ho; cases hd)
          | 15, ho => (obtain rfl := Option.some.inj ho; cases hd)
          | 16, ho => (obtain rfl := Option.some.inj ho; cases hd)
          | 17, ho => (obtain rfl := Option.some.inj ho; cases hd)
          | 18, ho => (obtain rfl := Option.some.inj ho; cases hd)
          | 19, ho => (obtain rfl := Option.some.inj ho; cases hd)
          | 20, ho => (obtain rfl := Option.some.inj ho; cases hd)
          | 21, ho => (obtain rfl := Option.some.inj ho; cases hd)
          | 22, ho => (obtain rfl := Option.some.inj ho; cases hd)
          | 23, ho => (obtain rfl := Option.some.inj ho; cases hd)
          | 24, ho => (obtain rfl := Option.some.inj ho; cases hd)
          | 25, ho => trivial
          | 26, ho => (obtain rfl := Option.some.inj ho; cases hd)
          | 27, ho => (obtain rfl := Option.some.inj ho; cases hd)
          | 28, ho => trivial
          | 29, ho => (obtain rfl := Option.some.inj ho; cases hd)
          | 30, ho => (obtain rfl := Option.some.inj ho; cases hd)
          | 31, ho => trivial
          | (_ + 32), _ => trivial
      · intro listed i o f W ho hi hs hli hcl hdl hB hdep
        replace hs : listed.size = 32 := hs
        replace hB : BX (fun t0 t1 t2 W => OwnR TAl W B (.slice (some ⟨go, 0, none⟩) l.length acap) (l.set j (cond t0 y0 kx, cond t1 y1 bx, cond t2 y2 ox)) ∧ (XK wb Kp W ∧ OwnR TPt W B (.slice pa ps.length pcap) ps)) w0 s (w9.heap.size) li (m8 + 1) (listed.getD 13 false) (listed.getD 20 false) (listed.getD 22 false) (listed.getD 25 false) (listed.getD 28 false) (listed.getD 31 false) W := hB
        have hi' : i = 0 ∨ i = 1 ∨ i = 2 ∨ i = 3 ∨ i = 4 ∨ i = 5 ∨ i = 6 ∨ i = 7 ∨ i = 8 ∨ i = 9 ∨ i = 10 ∨ i = 11 ∨ i = 12 ∨ i = 13 ∨ i = 14 ∨ i = 15 ∨ i = 16 ∨ i = 17 ∨ i = 18 ∨ i = 19 ∨ i = 20 ∨ i = 21 ∨ i = 22 ∨ i = 23 ∨ i = 24 ∨ i = 25 ∨ i = 26 ∨ i = 27 ∨ i = 28 ∨ i = 29 ∨ i = 30 ∨ i = 31 := by
          have : i < 32 := hi
          omega
        rcases hi' with rfl | rfl | rfl | rfl | rfl | rfl | rfl | rfl | rfl | rfl | rfl | rfl | rfl | rfl | rfl | rfl | rfl | rfl | rfl | rfl | rfl | rfl | rfl | rfl | rfl | rfl | rfl | rfl | rfl | rfl | rfl | rfl
        · refine iv_val ho (by obtain rfl := Option.some.inj ho; rfl) (.pointer (some ⟨go, j * 3, none⟩)) W ?_ (HKP.out listed 0 _ hs (by decide) (by decide) hB) (RR.refl _ _) rfl
          · intro q hq
            obtain rfl := Option.some.inj ho
            have e4 := hq.tmp 4
            simp at e4
            simp [execOp, e4, go_sem]
        · refine iv_val ho (by obtain rfl := Option.some.inj ho; rfl) (.pointer (some ⟨go, j * 3, none⟩)) W ?_ (HKP.out listed 1 _ hs (by decide) (by decide) hB) (RR.refl _ _) rfl
          · intro q hq
            obtain rfl := Option.some.inj ho
            have e4 := hq.tmp 4
            simp at e4
            simp [execOp, e4, go_sem]
        · refine iv_val ho (by obtain rfl := Option.some.inj ho; rfl) (.pointer (some ⟨go, j * 3, none⟩)) W ?_ (HKP.out listed 2 _ hs (by decide) (by decide) hB) (RR.refl _ _) rfl
          · intro q hq
            obtain rfl := Option.some.inj ho
            have e4 := hq.tmp 4
            simp at e4
            simp [execOp, e4, go_sem]
        · refine iv_val ho (by obtain rfl := Option.some.inj ho; rfl) (.pointer (some ⟨s, 0, none⟩)) W ?_ (HKP.out listed 3 _ hs (by decide) (by decide) hB) (RR.refl _ _) rfl
          · intro q hq
            obtain rfl := Option.some.inj ho
            have e0 := hq.tmp 0
            simp at e0
            simp [execOp, e0, go_sem]
        · refine iv_val ho (by obtain rfl := Option.some.inj ho; rfl) (.pointer (some ⟨go, j * 3, none⟩)) W ?_ (HKP.out listed 4 _ hs (by decide) (by decide) hB) (RR.refl _ _) rfl
          · intro q hq
            obtain rfl := Option.some.inj ho
            have e4 := hq.tmp 4
            simp at e4
            simp [execOp, e4, go_sem]
        · have d32 : f 32 = .pointer (some ⟨go, j * 3, none⟩) := hdep ⟨4, .data⟩ (by obtain rfl := Option.some.inj ho; simp) rfl
          refine iv_val ho (by obtain rfl := Option.some.inj ho; rfl) (.pointer (some ⟨go, j * 3, none⟩)) W ?_ (HKP.out listed 5 _ hs (by decide) (by decide) hB) (RR.refl _ _) rfl
          · intro q hq
            obtain rfl := Option.some.inj ho
            have e32 := hq.tmp 32
            simp at e32
            simp [execOp, e32, d32, go_sem]
        · have d33 : f 33 = .pointer (some ⟨go, j * 3, none⟩) := hdep ⟨5, .data⟩ (by obtain rfl := Option.some.inj ho; simp) rfl
          refine iv_val ho (by obtain rfl := Option.some.inj ho; rfl) (.pointer (some ⟨go, j * 3, none⟩)) W ?_ (HKP.out listed 6 _ hs (by decide) (by decide) hB) (RR.refl _ _) rfl
          · intro q hq
            obtain rfl := Option.some.inj ho
            have e33 := hq.tmp 33
            simp at e33
            simp [execOp, e33, d33, go_sem]
        · have d34 : f 34 = .pointer (some ⟨go, j * 3, none⟩) := hdep ⟨6, .data⟩ (by obtain rfl := Option.some.inj ho; simp) rfl
          have hO' := hB.own.1
          rw [show listed.getD 25 false = false from (hcl.no (hcl.no (hcl.no hli 12 ⟨7, .data⟩ rfl rfl (by simp) rfl) 13 ⟨12, .data⟩ rfl rfl (by simp) rfl) 25 ⟨13, .data⟩ rfl rfl (by simp) rfl)] at hO'
          have hx0 : (l.set j (cond false y0 kx, cond (listed.getD 28 false) y1 bx, cond (listed.getD 31 false) y2 ox))[j]? = some (cond false y0 kx, cond (listed.getD 28 false) y1 bx, cond (listed.getD 31 false) y2 ox) := List.getElem?_set_self hjn
          have y9 : W.cell? ⟨go, j * 3, none⟩ = some (.string kx) := (OwnR.cellf TAl.ok hO' (by simp) hx0 (fo := 0) rfl).1
          refine iv_val ho (by obtain rfl := Option.some.inj ho; rfl) (.string kx) W ?_ (HKP.out listed 7 _ hs (by decide) (by decide) hB) (RR.refl _ _) rfl
          · intro q hq
            obtain rfl := Option.some.inj ho
            have e34 := hq.tmp 34
            simp at e34
            simp [execOp, e34, d34, go_sem, y9]
        · refine iv_val ho (by obtain rfl := Option.some.inj ho; rfl) (.pointer (some ⟨go, j * 3, none⟩)) W ?_ (HKP.out listed 8 _ hs (by decide) (by decide) hB) (RR.refl _ _) rfl
          · intro q hq
            obtain rfl := Option.some.inj ho
            have e4 := hq.tmp 4
            simp at e4
            simp [execOp, e4, go_sem]
        · have d36 : f 36 = .pointer (some ⟨go, j * 3, none⟩) := hdep ⟨8, .data⟩ (by obtain rfl := Option.some.inj ho; simp) rfl
          refine iv_val ho (by obtain rfl := Option.some.inj ho; rfl) (.pointer (some ⟨go, j * 3, none⟩)) W ?_ (HKP.out listed 9 _ hs (by decide) (by decide) hB) (RR.refl _ _) rfl
          · intro q hq
            obtain rfl := Option.some.inj ho
            have e36 := hq.tmp 36
            simp at e36
            simp [execOp, e36, d36, go_sem]
        · have d37 : f 37 = .pointer (some ⟨go, j * 3, none⟩) := hdep ⟨9, .data⟩ (by obtain rfl := Option.some.inj ho; simp) rfl
          refine iv_val ho (by obtain rfl := Option.some.inj ho; rfl) (.pointer (some ⟨go, j * 3 + 1, none⟩)) W ?_ (HKP.out listed 10 _ hs (by decide) (by decide) hB) (RR.refl _ _) rfl
          · intro q hq
            obtain rfl := Option.some.inj ho
            have e37 := hq.tmp 37
            simp at e37
            simp [execOp, e37, d37, go_sem]
        · have d38 : f 38 = .pointer (some ⟨go, j * 3 + 1, none⟩) := hdep ⟨10, .data⟩ (by obtain rfl := Option.some.inj ho; simp) rfl
          have hO' := hB.own.1
          rw [show listed.getD 28 false = false from (hcl.no (hcl.no (hcl.no (hcl.no hli 12 ⟨11, .data⟩ rfl rfl (by simp) rfl) 13 ⟨12, .data⟩ rfl rfl (by simp) rfl) 20 ⟨13, .chain⟩ rfl rfl (by simp) rfl) 28 ⟨20, .data⟩ rfl rfl (by simp) rfl)] at hO'
          have hx0 : (l.set j (cond (listed.getD 25 false) y0 kx, cond false y1 bx, cond (listed.getD 31 false) y2 ox))[j]? = some (cond (listed.getD 25 false) y0 kx, cond false y1 bx, cond (listed.getD 31 false) y2 ox) := List.getElem?_set_self hjn
          have y9 : W.cell? ⟨go, j * 3 + 1, none⟩ = some (.string bx) := (OwnR.cellf TAl.ok hO' (by simp) hx0 (fo := 1) rfl).1
          refine iv_val ho (by obtain rfl := Option.some.inj ho; rfl) (.string bx) W ?_ (HKP.out listed 11 _ hs (by decide) (by decide) hB) (RR.refl _ _) rfl
          · intro q hq
            obtain rfl := Option.some.inj ho
            have e38 := hq.tmp 38
            simp at e38
            simp [execOp, e38, d38, go_sem, y9]
        · have d35 : f 35 = .string kx := hdep ⟨7, .data⟩ (by obtain rfl := Option.some.inj ho; simp) rfl
          have d39 : f 39 = .string bx := hdep ⟨11, .data⟩ (by obtain rfl := Option.some.inj ho; simp) rfl
          refine iv_val ho (by obtain rfl := Option.some.inj ho; rfl) (.slice (some ⟨W.heap.size, 0, none⟩) 3 3) (W.alloc (.cells #[.string kx, .string bx, .string (⟨#[122, 122]⟩ : ByteArray)] 9)) ?_ (HKP.out listed 12 _ hs (by decide) (by decide) (hB.below hK (Bl.alloc (Below.refl _ _) _))) (RR.of_below (Bl.alloc (Below.refl _ _) _)) ⟨⟨_, rfl⟩, RecR.of_blk (T := TS) (blk_new _ _) rfl rfl (by simp) (by omega) hB.size⟩
          · intro q hq
            obtain rfl := Option.some.inj ho
            have e35 := hq.tmp 35
            have e39 := hq.tmp 39
            simp at e35 e39
            simp [execOp, hq.const, e35, e39, d35, d39, go_sem]
        · have d31 : f 31 = .pointer (some ⟨s, 0, none⟩) := hdep ⟨3, .data⟩ (by obtain rfl := Option.some.inj ho; simp) rfl
          obtain ⟨⟨bi, d40⟩, hri⟩ : VLSx (w9.heap.size) [kx, bx, (⟨#[122, 122]⟩ : ByteArray)] (f 40) W := hdep ⟨12, .data⟩ (by obtain rfl := Option.some.inj ho; simp) rfl
          have l1 : listed.getD 20 false = false := (hcl.no hli 20 ⟨13, .chain⟩ rfl rfl (by simp) rfl)
          have l2 : listed.getD 22 false = false := (hcl.no (hcl.no hli 20 ⟨13, .chain⟩ rfl rfl (by simp) rfl) 22 ⟨20, .chain⟩ rfl rfl (by simp) rfl)
          rw [hli, l1, l2] at hB
          have hS : StrX W s li ((m8 + 1) + 0) := by simpa using hB.str
          refine iv_call ho (by obtain rfl := Option.some.inj ho; rfl) 34 #[.tmp 31, .tmp 40] _ (by obtain rfl := Option.some.inj ho; rfl) (enters_of Tryz.func34 (by kernel_rfl) rfl) #[.pointer (some ⟨s, 0, none⟩), f 40] (by intro q hq; have e31 := hq.tmp 31; simp at e31; have e40 := hq.tmp 40; simp at e40; simp [e31, e40, d31]) _ (HC1.out W (f 40) hS (Rd.mono hri (by omega))) ?_
          rintro e W' ⟨rfl, hs', hg'⟩
          have hN : BX (fun t0 t1 t2 W => OwnR TAl W B (.slice (some ⟨go, 0, none⟩) l.length acap) (l.set j (cond t0 y0 kx, cond t1 y1 bx, cond t2 y2 ox)) ∧ (XK wb Kp W ∧ OwnR TPt W B (.slice pa ps.length pcap) ps)) w0 s (w9.heap.size) li (m8 + 1) true false false (listed.getD 25 false) (listed.getD 28 false) (listed.getD 31 false) W' := hB.call hK (by simpa using hs') hg'
          refine ⟨_, rfl, ?_, RR.of_gr hg' (by omega), rfl⟩
          show BX (fun t0 t1 t2 W => OwnR TAl W B (.slice (some ⟨go, 0, none⟩) l.length acap) (l.set j (cond t0 y0 kx, cond t1 y1 bx, cond t2 y2 ox)) ∧ (XK wb Kp W ∧ OwnR TPt W B (.slice pa ps.length pcap) ps)) w0 s (w9.heap.size) li (m8 + 1) ((listed.setIfInBounds 13 true).getD 13 false) ((listed.setIfInBounds 13 true).getD 20 false) ((listed.setIfInBounds 13 true).getD 22 false) ((listed.setIfInBounds 13 true).getD 25 false) ((listed.setIfInBounds 13 true).getD 28 false) ((listed.setIfInBounds 13 true).getD 31 false) W'
          rw [gd_in hs (by decide), gd_out hs (by decide) (by decide), l1, gd_out hs (by decide) (by decide), l2, gd_out hs (by decide) (by decide), gd_out hs (by decide) (by decide), gd_out hs (by decide) (by decide)]
          exact hN
        · refine iv_val ho (by obtain rfl := Option.some.inj ho; rfl) (.pointer (some ⟨s, 0, none⟩)) W ?_ (HKP.out listed 14 _ hs (by decide) (by decide) hB) (RR.refl _ _) rfl
          · intro q hq
            obtain rfl := Option.some.inj ho
            have e0 := hq.tmp 0
            simp at e0
            simp [execOp, e0, go_sem]
        · refine iv_val ho (by obtain rfl := Option.some.inj ho; rfl) (.pointer (some ⟨go, j * 3, none⟩)) W ?_ (HKP.out listed 15 _ hs (by decide) (by decide) hB) (RR.refl _ _) rfl
          · intro q hq
            obtain rfl := Option.some.inj ho
            have e4 := hq.tmp 4
            simp at e4
            simp [execOp, e4, go_sem]
        · have d43 : f 43 = .pointer (some ⟨go, j * 3, none⟩) := hdep ⟨15, .data⟩ (by obtain rfl := Option.some.inj ho; simp) rfl
          refine iv_val ho (by obtain rfl := Option.some.inj ho; rfl) (.pointer (some ⟨go, j * 3, none⟩)) W ?_ (HKP.out listed 16 _ hs (by decide) (by decide) hB) (RR.refl _ _) rfl
          · intro q hq
            obtain rfl := Option.some.inj ho
            have e43 := hq.tmp 43
            simp at e43
            simp [execOp, e43, d43, go_sem]
        · have d44 : f 44 = .pointer (some ⟨go, j * 3, none⟩) := hdep ⟨16, .data⟩ (by obtain rfl := Option.some.inj ho; simp) rfl
          refine iv_val ho (by obtain rfl := Option.some.inj ho; rfl) (.pointer (some ⟨go, j * 3 + 1, none⟩)) W ?_ (HKP.out listed 17 _ hs (by decide) (by decide) hB) (RR.refl _ _) rfl
          · intro q hq
            obtain rfl := Option.some.inj ho
            have e44 := hq.tmp 44
            simp at e44
            simp [execOp, e44, d44, go_sem]
        · have d45 : f 45 = .pointer (some ⟨go, j * 3 + 1, none⟩) := hdep ⟨17, .data⟩ (by obtain rfl := Option.some.inj ho; simp) rfl
          have hO' := hB.own.1
          rw [show listed.getD 28 false = false from (hcl.no (hcl.no (hcl.no hli 19 ⟨18, .data⟩ rfl rfl (by simp) rfl) 20 ⟨19, .data⟩ rfl rfl (by simp) rfl) 28 ⟨20, .data⟩ rfl rfl (by simp) rfl)] at hO'
          have hx0 : (l.set j (cond (listed.getD 25 false) y0 kx, cond false y1 bx, cond (listed.getD 31 false) y2 ox))[j]? = some (cond (listed.getD 25 false) y0 kx, cond false y1 bx, cond (listed.getD 31 false) y2 ox) := List.getElem?_set_self hjn
          have y9 : W.cell? ⟨go, j * 3 + 1, none⟩ = some (.string bx) := (OwnR.cellf TAl.ok hO' (by simp) hx0 (fo := 1) rfl).1
          refine iv_val ho (by obtain rfl := Option.some.inj ho; rfl) (.string bx) W ?_ (HKP.out listed 18 _ hs (by decide) (by decide) hB) (RR.refl _ _) rfl
          · intro q hq
            obtain rfl := Option.some.inj ho
            have e45 := hq.tmp 45
            simp at e45
            simp [execOp, e45, d45, go_sem, y9]
        · have d46 : f 46 = .string bx := hdep ⟨18, .data⟩ (by obtain rfl := Option.some.inj ho; simp) rfl
          refine iv_val ho (by obtain rfl := Option.some.inj ho; rfl) (.slice (some ⟨W.heap.size, 0, none⟩) 3 3) (W.alloc (.cells #[.string bx, .string (⟨#[97]⟩ : ByteArray), .string (⟨#[98]⟩ : ByteArray)] 9)) ?_ (HKP.out listed 19 _ hs (by decide) (by decide) (hB.below hK (Bl.alloc (Below.refl _ _) _))) (RR.of_below (Bl.alloc (Below.refl _ _) _)) ⟨⟨_, rfl⟩, RecR.of_blk (T := TS) (blk_new _ _) rfl rfl (by simp) (by omega) hB.size⟩
          · intro q hq
            obtain rfl := Option.some.inj ho
            have e46 := hq.tmp 46
            simp at e46
            simp [execOp, hq.const, e46, d46, go_sem]
        · have d42 : f 42 = .pointer (some ⟨s, 0, none⟩) := hdep ⟨14, .data⟩ (by obtain rfl := Option.some.inj ho; simp) rfl
          obtain ⟨⟨bi, d47⟩, hri⟩ : VLSx (w9.heap.size) [bx, (⟨#[97]⟩ : ByteArray), (⟨#[98]⟩ : ByteArray)] (f 47) W := hdep ⟨19, .data⟩ (by obtain rfl := Option.some.inj ho; simp) rfl
          have l0 : listed.getD 13 false = true := hdl ⟨13, .chain⟩ (by obtain rfl := Option.some.inj ho; simp) rfl
          have l2 : listed.getD 22 false = false := (hcl.no hli 22 ⟨20, .chain⟩ rfl rfl (by simp) rfl)
          rw [l0, hli, l2] at hB
          have hS : StrX W s li ((m8 + 1) + 1) := by simpa using hB.str
          refine iv_call ho (by obtain rfl := Option.some.inj ho; rfl) 34 #[.tmp 42, .tmp 47] _ (by obtain rfl := Option.some.inj ho; rfl) (enters_of Tryz.func34 (by kernel_rfl) rfl) #[.pointer (some ⟨s, 0, none⟩), f 47] (by intro q hq; have e42 := hq.tmp 42; simp at e42; have e47 := hq.tmp 47; simp at e47; simp [e42, e47, d42]) _ (HC2.out W (f 47) hS (Rd.mono hri (by omega))) ?_
          rintro e W' ⟨rfl, hs', hg'⟩
          have hN : BX (fun t0 t1 t2 W => OwnR TAl W B (.slice (some ⟨go, 0, none⟩) l.length acap) (l.set j (cond t0 y0 kx, cond t1 y1 bx, cond t2 y2 ox)) ∧ (XK wb Kp W ∧ OwnR TPt W B (.slice pa ps.length pcap) ps)) w0 s (w9.heap.size) li (m8 + 1) true true false (listed.getD 25 false) (listed.getD 28 false) (listed.getD 31 false) W' := hB.call hK (by simpa using hs') hg'
          refine ⟨_, rfl, ?_, RR.of_gr hg' (by omega), rfl⟩
          show BX (fun t0 t1 t2 W => OwnR TAl W B (.slice (some ⟨go, 0, none⟩) l.length acap) (l.set j (cond t0 y0 kx, cond t1 y1 bx, cond t2 y2 ox)) ∧ (XK wb Kp W ∧ OwnR TPt W B (.slice pa ps.length pcap) ps)) w0 s (w9.heap.size) li (m8 + 1) ((listed.setIfInBounds 20 true).getD 13 false) ((listed.setIfInBounds 20 true).getD 20 false) ((listed.setIfInBounds 20 true).getD 22 false) ((listed.setIfInBounds 20 true).getD 25 false) ((listed.setIfInBounds 20 true).getD 28 false) ((listed.setIfInBounds 20 true).getD 31 false) W'
          rw [gd_out hs (by decide) (by decide), l0, gd_in hs (by decide), gd_out hs (by decide) (by decide), l2, gd_out hs (by decide) (by decide), gd_out hs (by decide) (by decide), gd_out hs (by decide) (by decide)]
          exact hN
        · refine iv_val ho (by obtain rfl := Option.some.inj ho; rfl) (.pointer (some ⟨s, 0, none⟩)) W ?_ (HKP.out listed 21 _ hs (by decide) (by decide) hB) (RR.refl _ _) rfl
          · intro q hq
            obtain rfl := Option.some.inj ho
            have e0 := hq.tmp 0
            simp at e0
            simp [execOp, e0, go_sem]
        · have d49 : f 49 = .pointer (some ⟨s, 0, none⟩) := hdep ⟨21, .data⟩ (by obtain rfl := Option.some.inj ho; simp) rfl
          have l1 : listed.getD 20 false = true := hdl ⟨20, .chain⟩ (by obtain rfl := Option.some.inj ho; simp) rfl
          have l0 : listed.getD 13 false = true := hcl 20 _ rfl l1 ⟨13, .chain⟩ (by simp) rfl
          rw [l0, l1, hli] at hB
          have hS : StrX W s li ((m8 + 1) + 2) := by simpa using hB.str
          refine iv_call ho (by obtain rfl := Option.some.inj ho; rfl) 36 #[.tmp 49, .const (.int .i64 (2))] _ (by obtain rfl := Option.some.inj ho; rfl) (enters_of Tryz.func36 (by kernel_rfl) rfl) #[.pointer (some ⟨s, 0, none⟩), .int .i64 (2)] (by intro q hq; have e49 := hq.tmp 49; simp at e49; simp [hq.const, e49, d49]) _ (HC3.out W hS) ?_
          rintro e W' ⟨rfl, hs', hg'⟩
          have hN : BX (fun t0 t1 t2 W => OwnR TAl W B (.slice (some ⟨go, 0, none⟩) l.length acap) (l.set j (cond t0 y0 kx, cond t1 y1 bx, cond t2 y2 ox)) ∧ (XK wb Kp W ∧ OwnR TPt W B (.slice pa ps.length pcap) ps)) w0 s (w9.heap.size) li (m8 + 1) true true true (listed.getD 25 false) (listed.getD 28 false) (listed.getD 31 false) W' := hB.call hK (by simpa using hs') hg'
          refine ⟨_, rfl, ?_, RR.of_gr hg' (by omega), rfl⟩
          show BX (fun t0 t1 t2 W => OwnR TAl W B (.slice (some ⟨go, 0, none⟩) l.length acap) (l.set j (cond t0 y0 kx, cond t1 y1 bx, cond t2 y2 ox)) ∧ (XK wb Kp W ∧ OwnR TPt W B (.slice pa ps.length pcap) ps)) w0 s (w9.heap.size) li (m8 + 1) ((listed.setIfInBounds 22 true).getD 13 false) ((listed.setIfInBounds 22 true).getD 20 false) ((listed.setIfInBounds 22 true).getD 22 false) ((listed.setIfInBounds 22 true).getD 25 false) ((listed.setIfInBounds 22 true).getD 28 false) ((listed.setIfInBounds 22 true).getD 31 false) W'
          rw [gd_out hs (by decide) (by decide), l0, gd_out hs (by decide) (by decide), l1, gd_in hs (by decide), gd_out hs (by decide) (by decide), gd_out hs (by decide) (by decide), gd_out hs (by decide) (by decide)]
          exact hN
        · have d28 : f 28 = .pointer (some ⟨go, j * 3, none⟩) := hdep ⟨0, .data⟩ (by obtain rfl := Option.some.inj ho; simp) rfl
          refine iv_val ho (by obtain rfl := Option.some.inj ho; rfl) (.pointer (some ⟨go, j * 3, none⟩)) W ?_ (HKP.out listed 23 _ hs (by decide) (by decide) hB) (RR.refl _ _) rfl
          · intro q hq
            obtain rfl := Option.some.inj ho
            have e28 := hq.tmp 28
            simp at e28
            simp [execOp, e28, d28, go_sem]
        · have d51 : f 51 = .pointer (some ⟨go, j * 3, none⟩) := hdep ⟨23, .data⟩ (by obtain rfl := Option.some.inj ho; simp) rfl
          refine iv_val ho (by obtain rfl := Option.some.inj ho; rfl) (.pointer (some ⟨go, j * 3, none⟩)) W ?_ (HKP.out listed 24 _ hs (by decide) (by decide) hB) (RR.refl _ _) rfl
          · intro q hq
            obtain rfl := Option.some.inj ho
            have e51 := hq.tmp 51
            simp at e51
            simp [execOp, e51, d51, go_sem]
        · have d52 : f 52 = .pointer (some ⟨go, j * 3, none⟩) := hdep ⟨24, .data⟩ (by obtain rfl := Option.some.inj ho; simp) rfl
          have d41 : f 41 = .string y0 := hdep ⟨13, .data⟩ (by obtain rfl := Option.some.inj ho; simp) rfl
          have hB0 := hB
          rw [hli] at hB
          obtain ⟨hO', hx'⟩ := hB.own
          have hx0 : (l.set j (cond false y0 kx, cond (listed.getD 28 false) y1 bx, cond (listed.getD 31 false) y2 ox))[j]? = some (cond false y0 kx, cond (listed.getD 28 false) y1 bx, cond (listed.getD 31 false) y2 ox) := List.getElem?_set_self hjn
          obtain ⟨y9, g9⟩ := OwnR.cellf TAl.ok hO' (by simp) hx0 (fo := 0) rfl
          replace y9 : W.cell? ⟨go, j * 3, none⟩ = some (.string kx) := y9
          replace g9 : W.frozen? ⟨go, j * 3, none⟩ = false := g9
          have hO2 : OwnR TAl (W.setCell ⟨go, j * 3, none⟩ (.string y0)) B (.slice (some ⟨go, 0, none⟩) l.length acap) ((l.set j (cond false y0 kx, cond (listed.getD 28 false) y1 bx, cond (listed.getD 31 false) y2 ox)).set j (cond true y0 kx, cond (listed.getD 28 false) y1 bx, cond (listed.getD 31 false) y2 ox)) := OwnR.setf TAl.ok hO' (by simp) hx0 (fo := 0) (by decide) rfl
          rw [List.set_set] at hO2
          have hN : BX (fun t0 t1 t2 W => OwnR TAl W B (.slice (some ⟨go, 0, none⟩) l.length acap) (l.set j (cond t0 y0 kx, cond t1 y1 bx, cond t2 y2 ox)) ∧ (XK wb Kp W ∧ OwnR TPt W B (.slice pa ps.length pcap) ps)) w0 s (w9.heap.size) li (m8 + 1) (listed.getD 13 false) (listed.getD 20 false) (listed.getD 22 false) true (listed.getD 28 false) (listed.getD 31 false) (W.setCell ⟨go, j * 3, none⟩ (.string y0)) := hB.store (by omega) (by omega) ⟨hO2, HXS.out W _ _ hx'⟩
          have hN2 : BX (fun t0 t1 t2 W => OwnR TAl W B (.slice (some ⟨go, 0, none⟩) l.length acap) (l.set j (cond t0 y0 kx, cond t1 y1 bx, cond t2 y2 ox)) ∧ (XK wb Kp W ∧ OwnR TPt W B (.slice pa ps.length pcap) ps)) w0 s (w9.heap.size) li (m8 + 1) ((listed.setIfInBounds 25 true).getD 13 false) ((listed.setIfInBounds 25 true).getD 20 false) ((listed.setIfInBounds 25 true).getD 22 false) ((listed.setIfInBounds 25 true).getD 25 false) ((listed.setIfInBounds 25 true).getD 28 false) ((listed.setIfInBounds 25 true).getD 31 false) (W.setCell ⟨go, j * 3, none⟩ (.string y0)) := by rw [gd_out hs (by decide) (by decide), gd_out hs (by decide) (by decide), gd_out hs (by decide) (by decide), gd_in hs (by decide), gd_out hs (by decide) (by decide), gd_out hs (by decide) (by decide)]; exact hN
          refine iv_skip ho (by obtain rfl := Option.some.inj ho; rfl) (by obtain rfl := Option.some.inj ho; rfl) (W.setCell ⟨go, j * 3, none⟩ (.string y0)) ?_ hN2 ⟨by simp, fun i h1 h2 => Below.heap_setCell _ _ _ _ (by show i ≠ go; omega)⟩ trivial
          · intro q hq
            obtain rfl := Option.some.inj ho
            have e41 := hq.tmp 41
            have e52 := hq.tmp 52
            simp at e41 e52
            simp [execOp, e41, e52, d41, d52, go_sem, y9, g9]
        · have d29 : f 29 = .pointer (some ⟨go, j * 3, none⟩) := hdep ⟨1, .data⟩ (by obtain rfl := Option.some.inj ho; simp) rfl
          refine iv_val ho (by obtain rfl := Option.some.inj ho; rfl) (.pointer (some ⟨go, j * 3, none⟩)) W ?_ (HKP.out listed 26 _ hs (by decide) (by decide) hB) (RR.refl _ _) rfl
          · intro q hq
            obtain rfl := Option.some.inj ho
            have e29 := hq.tmp 29
            simp at e29
            simp [execOp, e29, d29, go_sem]
        · have d53 : f 53 = .pointer (some ⟨go, j * 3, none⟩) := hdep ⟨26, .data⟩ (by obtain rfl := Option.some.inj ho; simp) rfl
          refine iv_val ho (by obtain rfl := Option.some.inj ho; rfl) (.pointer (some ⟨go, j * 3 + 1, none⟩)) W ?_ (HKP.out listed 27 _ hs (by decide) (by decide) hB) (RR.refl _ _) rfl
          · intro q hq
            obtain rfl := Option.some.inj ho
            have e53 := hq.tmp 53
            simp at e53
            simp [execOp, e53, d53, go_sem]
        · have d54 : f 54 = .pointer (some ⟨go, j * 3 + 1, none⟩) := hdep ⟨27, .data⟩ (by obtain rfl := Option.some.inj ho; simp) rfl
          have d48 : f 48 = .string y1 := hdep ⟨20, .data⟩ (by obtain rfl := Option.some.inj ho; simp) rfl
          have hB0 := hB
          rw [hli] at hB
          obtain ⟨hO', hx'⟩ := hB.own
          have hx0 : (l.set j (cond (listed.getD 25 false) y0 kx, cond false y1 bx, cond (listed.getD 31 false) y2 ox))[j]? = some (cond (listed.getD 25 false) y0 kx, cond false y1 bx, cond (listed.getD 31 false) y2 ox) := List.getElem?_set_self hjn
          obtain ⟨y9, g9⟩ := OwnR.cellf TAl.ok hO' (by simp) hx0 (fo := 1) rfl
          replace y9 : W.cell? ⟨go, j * 3 + 1, none⟩ = some (.string bx) := y9
          replace g9 : W.frozen? ⟨go, j * 3 + 1, none⟩ = false := g9
          have hO2 : OwnR TAl (W.setCell ⟨go, j * 3 + 1, none⟩ (.string y1)) B (.slice (some ⟨go, 0, none⟩) l.length acap) ((l.set j (cond (listed.getD 25 false) y0 kx, cond false y1 bx, cond (listed.getD 31 false) y2 ox)).set j (cond (listed.getD 25 false) y0 kx, cond true y1 bx, cond (listed.getD 31 false) y2 ox)) := OwnR.setf TAl.ok hO' (by simp) hx0 (fo := 1) (by decide) rfl
          rw [List.set_set] at hO2
          have hN : BX (fun t0 t1 t2 W => OwnR TAl W B (.slice (some ⟨go, 0, none⟩) l.length acap) (l.set j (cond t0 y0 kx, cond t1 y1 bx, cond t2 y2 ox)) ∧ (XK wb Kp W ∧ OwnR TPt W B (.slice pa ps.length pcap) ps)) w0 s (w9.heap.size) li (m8 + 1) (listed.getD 13 false) (listed.getD 20 false) (listed.getD 22 false) (listed.getD 25 false) true (listed.getD 31 false) (W.setCell ⟨go, j * 3 + 1, none⟩ (.string y1)) := hB.store (by omega) (by omega) ⟨hO2, HXS.out W _ _ hx'⟩
          have hN2 : BX (fun t0 t1 t2 W => OwnR TAl W B (.slice (some ⟨go, 0, none⟩) l.length acap) (l.set j (cond t0 y0 kx, cond t1 y1 bx, cond t2 y2 ox)) ∧ (XK wb Kp W ∧ OwnR TPt W B (.slice pa ps.length pcap) ps)) w0 s (w9.heap.size) li (m8 + 1) ((listed.setIfInBounds 28 true).getD 13 false) ((listed.setIfInBounds 28 true).getD 20 false) ((listed.setIfInBounds 28 true).getD 22 false) ((listed.setIfInBounds 28 true).getD 25 false) ((listed.setIfInBounds 28 true).getD 28 false) ((listed.setIfInBounds 28 true).getD 31 false) (W.setCell ⟨go, j * 3 + 1, none⟩ (.string y1)) := by rw [gd_out hs (by decide) (by decide), gd_out hs (by decide) (by decide), gd_out hs (by decide) (by decide), gd_out hs (by decide) (by decide), gd_in hs (by decide), gd_out hs (by decide) (by decide)]; exact hN
          refine iv_skip ho (by obtain rfl := Option.some.inj ho; rfl) (by obtain rfl := Option.some.inj ho; rfl) (W.setCell ⟨go, j * 3 + 1, none⟩ (.string y1)) ?_ hN2 ⟨by simp, fun i h1 h2 => Below.heap_setCell _ _ _ _ (by show i ≠ go; omega)⟩ trivial
          · intro q hq
            obtain rfl := Option.some.inj ho
            have e48 := hq.tmp 48
            have e54 := hq.tmp 54
            simp at e48 e54
            simp [execOp, e48, e54, d48, d54, go_sem, y9, g9]
        · have d30 : f 30 = .pointer (some ⟨go, j * 3, none⟩) := hdep ⟨2, .data⟩ (by obtain rfl := Option.some.inj ho; simp) rfl
          refine iv_val ho (by obtain rfl := Option.some.inj ho; rfl) (.pointer (some ⟨go, j * 3, none⟩)) W ?_ (HKP.out listed 29 _ hs (by decide) (by decide) hB) (RR.refl _ _) rfl
          · intro q hq
            obtain rfl := Option.some.inj ho
            have e30 := hq.tmp 30
            simp at e30
            simp [execOp, e30, d30, go_sem]
        · have d55 : f 55 = .pointer (some ⟨go, j * 3, none⟩) := hdep ⟨29, .data⟩ (by obtain rfl := Option.some.inj ho; simp) rfl
          refine iv_val ho (by obtain rfl := Option.some.inj ho; rfl) (.pointer (some ⟨go, j * 3 + 2, none⟩)) W ?_ (HKP.out listed 30 _ hs (by decide) (by decide) hB) (RR.refl _ _) rfl
          · intro q hq
            obtain rfl := Option.some.inj ho
            have e55 := hq.tmp 55
            simp at e55
            simp [execOp, e55, d55, go_sem]
        · have d56 : f 56 = .pointer (some ⟨go, j * 3 + 2, none⟩) := hdep ⟨30, .data⟩ (by obtain rfl := Option.some.inj ho; simp) rfl
          have d50 : f 50 = .bool y2 := hdep ⟨22, .data⟩ (by obtain rfl := Option.some.inj ho; simp) rfl
          have hB0 := hB
          rw [hli] at hB
          obtain ⟨hO', hx'⟩ := hB.own
          have hx0 : (l.set j (cond (listed.getD 25 false) y0 kx, cond (listed.getD 28 false) y1 bx, cond false y2 ox))[j]? = some (cond (listed.getD 25 false) y0 kx, cond (listed.getD 28 false) y1 bx, cond false y2 ox) := List.getElem?_set_self hjn
          obtain ⟨y9, g9⟩ := OwnR.cellf TAl.ok hO' (by simp) hx0 (fo := 2) rfl
          replace y9 : W.cell? ⟨go, j * 3 + 2, none⟩ = some (.bool ox) := y9
          replace g9 : W.frozen? ⟨go, j * 3 + 2, none⟩ = false := g9
          have hO2 : OwnR TAl (W.setCell ⟨go, j * 3 + 2, none⟩ (.bool y2)) B (.slice (some ⟨go, 0, none⟩) l.length acap) ((l.set j (cond (listed.getD 25 false) y0 kx, cond (listed.getD 28 false) y1 bx, cond false y2 ox)).set j (cond (listed.getD 25 false) y0 kx, cond (listed.getD 28 false) y1 bx, cond true y2 ox)) := OwnR.setf TAl.ok hO' (by simp) hx0 (fo := 2) (by decide) rfl
          rw [List.set_set] at hO2
          have hN : BX (fun t0 t1 t2 W => OwnR TAl W B (.slice (some ⟨go, 0, none⟩) l.length acap) (l.set j (cond t0 y0 kx, cond t1 y1 bx, cond t2 y2 ox)) ∧ (XK wb Kp W ∧ OwnR TPt W B (.slice pa ps.length pcap) ps)) w0 s (w9.heap.size) li (m8 + 1) (listed.getD 13 false) (listed.getD 20 false) (listed.getD 22 false) (listed.getD 25 false) (listed.getD 28 false) true (W.setCell ⟨go, j * 3 + 2, none⟩ (.bool y2)) := hB.store (by omega) (by omega) ⟨hO2, HXS.out W _ _ hx'⟩
          have hN2 : BX (fun t0 t1 t2 W => OwnR TAl W B (.slice (some ⟨go, 0, none⟩) l.length acap) (l.set j (cond t0 y0 kx, cond t1 y1 bx, cond t2 y2 ox)) ∧ (XK wb Kp W ∧ OwnR TPt W B (.slice pa ps.length pcap) ps)) w0 s (w9.heap.size) li (m8 + 1) ((listed.setIfInBounds 31 true).getD 13 false) ((listed.setIfInBounds 31 true).getD 20 false) ((listed.setIfInBounds 31 true).getD 22 false) ((listed.setIfInBounds 31 true).getD 25 false) ((listed.setIfInBounds 31 true).getD 28 false) ((listed.setIfInBounds 31 true).getD 31 false) (W.setCell ⟨go, j * 3 + 2, none⟩ (.bool y2)) := by rw [gd_out hs (by decide) (by decide), gd_out hs (by decide) (by decide), gd_out hs (by decide) (by decide), gd_out hs (by decide) (by decide), gd_out hs (by decide) (by decide), gd_in hs (by decide)]; exact hN
          refine iv_skip ho (by obtain rfl := Option.some.inj ho; rfl) (by obtain rfl := Option.some.inj ho; rfl) (W.setCell ⟨go, j * 3 + 2, none⟩ (.bool y2)) ?_ hN2 ⟨by simp, fun i h1 h2 => Below.heap_setCell _ _ _ _ (by show i ≠ go; omega)⟩ trivial
          · intro q hq
            obtain rfl := Option.some.inj ho
            have e50 := hq.tmp 50
            have e56 := hq.tmp 56
            simp at e50 e56
            simp [execOp, e50, e56, d50, d56, go_sem, y9, g9]
      intro listed f wz hall hB' hV
      replace hB' : BX (fun t0 t1 t2 W => OwnR TAl W B (.slice (some ⟨go, 0, none⟩) l.length acap) (l.set j (cond t0 y0 kx, cond t1 y1 bx, cond t2 y2 ox)) ∧ (XK wb Kp W ∧ OwnR TPt W B (.slice pa ps.length pcap) ps)) w0 s (w9.heap.size) li (m8 + 1) (listed.getD 13 false) (listed.getD 20 false) (listed.getD 22 false) (listed.getD 25 false) (listed.getD 28 false) (listed.getD 31 false) wz := hB'
      rw [show listed.getD 13 false = true from hall 13 (by decide), show listed.getD 20 false = true from hall 20 (by decide), show listed.getD 22 false = true from hall 22 (by decide), show listed.getD 25 false = true from hall 25 (by decide), show listed.getD 28 false = true from hall 28 (by decide), show listed.getD 31 false = true from hall 31 (by decide)] at hB'
      unfold putsA
      simp only [List.mapIdx_toArray, List.mapIdx_cons, List.mapIdx_nil, List.contains_cons]
      simp
      obtain ⟨hSz, ⟨hOz, hXz⟩, _, hGz⟩ := hB'
      have HF := Lib.hid (show OwnR TPt wz B (.slice pa ps.length pcap) SX.1 ∧ OwnR TAl wz B (.slice (some ⟨go, 0, none⟩) l.length acap) SX.2.1 ∧ XK wb Kp wz ∧ StrX wz s li SX.2.2 ∧ w0.grownBy wz (some s) from by
        rw [HSX.out, HR.out, spA_at HJX.out.1 HJX.out.2]
        obtain ⟨e0, e1, e2⟩ := HY.out
        rw [e0, e1, e2] at hOz
        exact ⟨hXz.2, hOz, hXz.1, hSz, hGz⟩)
      clear hSz hOz hGz hXz hV hK hO9' hS9 hG9 hall
      go_wp2
      refine bodyPost_ret (results_none rfl _ _ _) rfl ?_
      exact ⟨rfl, HF.out.1, HF.out.2.1, HF.out.2.2.1, HF.out.2.2.2.1, HF.out.2.2.2.2⟩
end Go.Proofs.YtihgnpobkpnipaaGreatDoor
