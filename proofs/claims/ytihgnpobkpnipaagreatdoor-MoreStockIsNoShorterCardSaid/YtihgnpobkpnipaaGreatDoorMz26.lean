/- Texts of the proof of a law, put together, part 26 of 35. Conditions: none beyond those that each theorem names. -/
import Derived.Test.YtihgnpobkpnipaaGreatDoorMz9
import Derived.Test.YtihgnpobkpnipaaGreatDoorMz15
import Derived.Test.YtihgnpobkpnipaaGreatDoorMz17
import Derived.Test.YtihgnpobkpnipaaGreatDoorMz25
namespace Go.Proofs.YtihgnpobkpnipaaGreatDoor
open Go.RowKit Go.Sort
/-- parts whose strings are short and whose numbers are small; alternates. -/
def PrtS (x : Prt) : Prop := x.1.size ≤ 5 ∧ x.2.1.size ≤ 5 ∧ -1099511627777 ≤ x.2.2.1 ∧ x.2.2.1 ≤ 1099511627777 ∧ -1099511627777 ≤ x.2.2.2 ∧ x.2.2.2 ≤ 1099511627777
def AltS (x : Alt) : Prop := x.1.size ≤ 5 ∧ x.2.1.size ≤ 5
def VJq (n : Nat) : Value → World → Prop := fun v _ => ∃ j : Nat, j < n ∧ v = .int .i64 j
def VPq (go n k : Nat) : Value → World → Prop := fun v _ => ∃ j : Nat, j < n ∧ v = .pointer (some ⟨go, j * k, none⟩)
def CatOk (w : World) (B : Nat) (vp va : Value) (np nl : Nat) : Prop := ∃ (ps' : List Prt) (l' : List Alt), ps'.length = np ∧ l'.length = nl ∧ OwnR TPt w B vp ps' ∧ OwnR TAl w B va l' ∧ (∀ x ∈ ps', PrtS x) ∧ (∀ x ∈ l', AltS x)
def PosL (n : Nat) : Prop := 0 < n
/-- what is kept: some blocks of the world ahead. -/
def XK (w : World) (Kp : Nat → Prop) (W : World) : Prop := w.heap.size ≤ W.heap.size ∧ ∀ g, Kp g → W.heap[g]? = w.heap[g]?
section
variable {w : World} {Kp : Nat → Prop} {s B : Nat}
theorem XK.refl (w : World) (Kp : Nat → Prop) : XK w Kp w := ⟨Nat.le_refl _, fun _ _ => rfl⟩
theorem XK.below (hK : ∀ g, Kp g → g < w.heap.size ∧ g ≠ s ∧ g < B) {W W' : World} (h : XK w Kp W) (hb : Below W.heap.size W W') : XK w Kp W' := ⟨Nat.le_trans h.1 hb.size, fun g hg => (hb.block g (Nat.lt_of_lt_of_le (hK g hg).1 h.1)).trans (h.2 g hg)⟩
theorem XK.gr (hK : ∀ g, Kp g → g < w.heap.size ∧ g ≠ s ∧ g < B) {W W' : World} (h : XK w Kp W) (hb : W.grownBy W' (some s)) : XK w Kp W' := ⟨Nat.le_trans h.1 hb.size, fun g hg => (hb.block g (Nat.lt_of_lt_of_le (hK g hg).1 h.1) (by intro e; injection e with e; exact (hK g hg).2.1 e)).trans (h.2 g hg)⟩
theorem XK.set (hK : ∀ g, Kp g → g < w.heap.size ∧ g ≠ s ∧ g < B) {W : World} (h : XK w Kp W) {go : Nat} (hgo : B ≤ go) (o : Nat) (v : Value) : XK w Kp (W.setCell ⟨go, o, none⟩ v) := ⟨by simpa using h.1, fun g hg => (Below.heap_setCell _ ⟨go, o, none⟩ _ g (by show g ≠ go; have := (hK g hg).2.2; omega)).trans (h.2 g hg)⟩
end
set_option maxHeartbeats 16000000 in
set_option maxRecDepth 100000 in
theorem spoilCat_any (s C B : Nat) (c : Int) (w0 wb w : World) (Kp : Nat → Prop) (vp va : Value) (ps : List Prt) (l : List Alt) (h : Str w s c) (hc : c ≤ 950000) (hs : s < w0.heap.size) (h0g : w0.grownBy w (some s)) (hB0 : w0.heap.size ≤ B)
    (hX : XK wb Kp w) (hC : wb.heap[C]? = some (.cells #[vp, va] 29 (0, 0))) (hKC : Kp C) (hKp : ∀ g, Kp g → g < wb.heap.size ∧ g ≠ s ∧ g < B) (hp : OwnR TPt w B vp ps) (ha : OwnR TAl w B va l) (hpl : ps.length ≤ 1000) (hal : l.length ≤ 1000) (okp : ∀ x ∈ ps, PrtS x) (oka : ∀ x ∈ l, AltS x) :
    Calls Tryz.prog 39 #[.pointer (some ⟨s, 0, none⟩), .pointer (some ⟨C, 0, none⟩)] w fun e w' => e = .returned (.tuple #[]) ∧ CatOk w' B vp va ps.length l.length ∧ XK wb Kp w' ∧ Str w' s (c + 1000) ∧ w0.grownBy w' (some s) := by
  obtain ⟨pa, pcap, rfl, _, _⟩ := hp.form
  obtain ⟨aa, acap, rfl, _, _⟩ := ha.form
  have HCC : Hid (∀ W, XK wb Kp W → W.cell? ⟨C, 0, none⟩ = some (.slice pa ps.length pcap) ∧ W.cell? ⟨C, 1, none⟩ = some (.slice aa l.length acap) ∧ C < W.heap.size) := Lib.hid fun W hW => by
    have h1 := (hW.2 C hKC).trans hC
    exact ⟨blk_cell h1 0, blk_cell h1 1, blk_lt h1⟩
  have HKP := Lib.hid hKp
  obtain ⟨cc0, cc1, _⟩ := HCC.out w hX
  clear hC hKC hKp
  have hX1 := hX
  clear hX
  go_enter Tryz.func39, Tryz.ntmps39
  have HPARTS : Hid (∀ (w8 : World), Str w8 s (c + 1) → XK wb Kp w8 → OwnR TPt w8 B (.slice pa ps.length pcap) ps → OwnR TAl w8 B (.slice aa l.length acap) l → w0.grownBy w8 (some s) → True) := Lib.hid fun _ _ _ _ _ _ => trivial
  clear HPARTS
  by_cases h0 : l.length = 0
  · have h0' : ¬ (0 : Int) < (l.length : Int) := by omega
    have hS8 : Str w s (c + 1) := h.mono (by omega)
    have hX8 := hX1
    have hp8 := hp
    have ha8 := ha
    have hG8 := h0g
    obtain ⟨w8, hw8⟩ : ∃ w8, w8 = w := ⟨_, rfl⟩
    rw [← hw8] at hS8 hX8 hp8 ha8 hG8 cc0 cc1
    rw [← hw8]
    clear hw8
    obtain ⟨_, _, lC⟩ := HCC.out w8 hX8
    clear h hp ha h0g hX1
    have hq0 := h0
    clear h0
    by_cases h0 : ps.length = 0
    · have h1' : ¬ (0 : Int) < (ps.length : Int) := by omega
      have HF := Lib.hid (And.intro hX8 (And.intro (hS8.mono (d := c + 1000) (by omega)) hG8))
      have HF2 := Lib.hid (show CatOk w8 B (.slice pa ps.length pcap) (.slice aa l.length acap) ps.length l.length from ⟨ps, l, rfl, rfl, hp8, ha8, okp, oka⟩)
      have HQ0 := Lib.hid (And.intro hq0 h0)
      clear hX8 hS8 hG8 hp8 ha8
      go_wp2
      go_end0
      exact ⟨rfl, (by have hh := HF2.out; first | exact hh | (rw [HQ0.out.1, HQ0.out.2] at hh; exact hh) | (rw [HQ0.out.2] at hh; exact hh)), HF.out.1, HF.out.2.1, HF.out.2.2⟩
    · have h1' : (0 : Int) < (ps.length : Int) := by omega
      go_wp2_with fail
      have HPOS : PosL ps.length := by unfold PosL; omega
      have hne : ps ≠ [] := fun e => h0 (by rw [e]; rfl)
      obtain ⟨go, cap, cur, hoa, hgo, hgb, _, _⟩ := hp8.blk hne
      injection hoa with hoa1 _ hoa2
      subst hoa1 hoa2
      have HOTY : Hid (∀ k, (Value.slice aa l.length acap).ownBlock = some k → k ≠ go) := Lib.hid fun k hk e => by
        subst e
        obtain ⟨_, c1, h1⟩ := (ownR_k TAl B).blk ha8 hk
        rw [hgb] at h1
        injection h1 with h1
        injection h1 with _ e2 _
        exact absurd e2 (by decide)
      clear hgb
      have ls8 := hS8.lt
      have HX8 := Lib.hid hX8
      have HXC : Hid (∀ W, (XK wb Kp W ∧ OwnR TAl W B (.slice aa l.length acap) l) → ∀ W', Below W.heap.size W W' → (XK wb Kp W' ∧ OwnR TAl W' B (.slice aa l.length acap) l)) := Lib.hid fun W hW W' hb => ⟨hW.1.below HKP.out hb, hW.2.below hb⟩
      have HXG : Hid (∀ W, (XK wb Kp W ∧ OwnR TAl W B (.slice aa l.length acap) l) → ∀ W', W.grownBy W' (some s) → (XK wb Kp W' ∧ OwnR TAl W' B (.slice aa l.length acap) l)) := Lib.hid fun W hW W' hb => ⟨hW.1.gr HKP.out hb, hW.2.grown hb (by omega)⟩
      have HK : OwnK (fun W => (∃ l' : List Prt, OwnR TPt W B (.slice (some ⟨go, 0, none⟩) ps.length pcap) l' ∧ l'.length = ps.length ∧ ∀ x ∈ l', PrtS x) ∧ (XK wb Kp W ∧ OwnR TAl W B (.slice aa l.length acap) l)) s := ⟨fun W W' h hb => ⟨(by obtain ⟨⟨l', h1, h2⟩, _⟩ := h; exact ⟨l', h1.below hb, h2⟩), HXC.out W h.2 W' hb⟩, fun W W' h hg => ⟨(by obtain ⟨⟨l', h1, h2⟩, _⟩ := h; exact ⟨l', h1.grown hg (by omega), h2⟩), HXG.out W h.2 W' hg⟩⟩
      refine wp_region_inv (by kernel_rfl) [63, 64, 65, 66, 67, 68, 69, 70, 71, 72, 73, 74, 5] (RB (fun W => (∃ l' : List Prt, OwnR TPt W B (.slice (some ⟨go, 0, none⟩) ps.length pcap) l' ∧ l'.length = ps.length ∧ ∀ x ∈ l', PrtS x) ∧ (XK wb Kp W ∧ OwnR TAl W B (.slice aa l.length acap) l)) w0 s (w8.heap.size) (c + 2 + 300)) (RR (w8.heap.size)) (fun i => [VE (.pointer (some ⟨C, 0, none⟩)), VE (.pointer (some ⟨C, 0, none⟩)), VE (.pointer (some ⟨C, 0, none⟩)), VE (.slice (some ⟨go, 0, none⟩) ps.length pcap), VE (.pointer (some ⟨s, 0, none⟩)), VE (.pointer (some ⟨C, 0, none⟩)), VE (.pointer (some ⟨C, 0, none⟩)), VE (.pointer (some ⟨C, 0, none⟩)), VE (.slice (some ⟨go, 0, none⟩) ps.length pcap), VE (.int .i64 ps.length), VJq ps.length, VPq go ps.length 4, VPq go ps.length 4].getD i VT) (by kernel_rfl) (by kernel_rfl) (fun u u' W hu h => h.mono hu) ?_ ?_ ?_ ?_ ?_
      · exact ⟨(hS8.drew).mono (by show _ ≤ (c + 2 + 300) - 10 * ((13 : Nat) : Int); omega), ⟨⟨ps, hp8, rfl, okp⟩, ⟨hX8, ha8⟩⟩, Nat.le_refl _, ⟨hG8.os, hG8.tape, hG8.output, hG8.size, hG8.block⟩⟩
      · intro u W W' i v hB hR hV
        exact match i, hV with
          | 0, h => h
          | 1, h => h
          | 2, h => h
          | 3, h => h
          | 4, h => h
          | 5, h => h
          | 6, h => h
          | 7, h => h
          | 8, h => h
          | 9, h => h
          | 10, h => h
          | 11, h => h
          | 12, h => h
          | (_ + 13), _ => trivial
      · intro i o v W ho hd
        match i, ho with
          | 0, ho => (obtain rfl := Option.some.inj ho; cases hd)
          | 1, ho => (obtain rfl := Option.some.inj ho; cases hd)
          | 2, ho => (obtain rfl := Option.some.inj ho; cases hd)
          | 3, ho => (obtain rfl := Option.some.inj ho; cases hd)
          | 4, ho => (obtain rfl := Option.some.inj ho; cases hd)
          | 5, ho => (obtain rfl := Option.some.inj ho; cases hd)
          | 6, ho => (obtain rfl := Option.some.inj ho; cases hd)
          | 7, ho => (obtain rfl := Option.some.inj ho; cases hd)
          | 8, ho => (obtain rfl := Option.some.inj ho; cases hd)
          | 9, ho => (obtain rfl := Option.some.inj ho; cases hd)
          | 10, ho => (obtain rfl := Option.some.inj ho; cases hd)
          | 11, ho => (obtain rfl := Option.some.inj ho; cases hd)
          | 12, ho => (obtain rfl := Option.some.inj ho; cases hd)
          | (_ + 13), _ => trivial
      · intro i o u f W ho hi hB hdep
        have hi' : i = 0 ∨ i = 1 ∨ i = 2 ∨ i = 3 ∨ i = 4 ∨ i = 5 ∨ i = 6 ∨ i = 7 ∨ i = 8 ∨ i = 9 ∨ i = 10 ∨ i = 11 ∨ i = 12 := by
          have : i < 13 := hi
          omega
        rcases hi' with rfl | rfl | rfl | rfl | rfl | rfl | rfl | rfl | rfl | rfl | rfl | rfl | rfl
        · refine iv_val ho (by obtain rfl := Option.some.inj ho; rfl) (.pointer (some ⟨C, 0, none⟩)) W ?_ (hB.below HK (Below.refl _ _)) (RR.refl _ _) rfl
          · intro q hq
            obtain rfl := Option.some.inj ho
            have e1 := hq.tmp 1
            simp at e1
            simp [execOp, e1, go_sem]
        · have d63 : f 63 = .pointer (some ⟨C, 0, none⟩) := hdep ⟨0, .data⟩ (by obtain rfl := Option.some.inj ho; simp) rfl
          refine iv_val ho (by obtain rfl := Option.some.inj ho; rfl) (.pointer (some ⟨C, 0, none⟩)) W ?_ (hB.below HK (Below.refl _ _)) (RR.refl _ _) rfl
          · intro q hq
            obtain rfl := Option.some.inj ho
            have e63 := hq.tmp 63
            simp at e63
            simp [execOp, e63, d63, go_sem]
        · have d64 : f 64 = .pointer (some ⟨C, 0, none⟩) := hdep ⟨1, .data⟩ (by obtain rfl := Option.some.inj ho; simp) rfl
          refine iv_val ho (by obtain rfl := Option.some.inj ho; rfl) (.pointer (some ⟨C, 0, none⟩)) W ?_ (hB.below HK (Below.refl _ _)) (RR.refl _ _) rfl
          · intro q hq
            obtain rfl := Option.some.inj ho
            have e64 := hq.tmp 64
            simp at e64
            simp [execOp, e64, d64, go_sem]
        · have d65 : f 65 = .pointer (some ⟨C, 0, none⟩) := hdep ⟨2, .data⟩ (by obtain rfl := Option.some.inj ho; simp) rfl
          have y0 := (HCC.out W hB.own.2.1).1
          refine iv_val ho (by obtain rfl := Option.some.inj ho; rfl) (.slice (some ⟨go, 0, none⟩) ps.length pcap) W ?_ (hB.below HK (Below.refl _ _)) (RR.refl _ _) rfl
          · intro q hq
            obtain rfl := Option.some.inj ho
            have e65 := hq.tmp 65
            simp at e65
            simp [execOp, e65, d65, go_sem, y0]
        · refine iv_val ho (by obtain rfl := Option.some.inj ho; rfl) (.pointer (some ⟨s, 0, none⟩)) W ?_ (hB.below HK (Below.refl _ _)) (RR.refl _ _) rfl
          · intro q hq
            obtain rfl := Option.some.inj ho
            have e0 := hq.tmp 0
            simp at e0
            simp [execOp, e0, go_sem]
        · refine iv_val ho (by obtain rfl := Option.some.inj ho; rfl) (.pointer (some ⟨C, 0, none⟩)) W ?_ (hB.below HK (Below.refl _ _)) (RR.refl _ _) rfl
          · intro q hq
            obtain rfl := Option.some.inj ho
            have e1 := hq.tmp 1
            simp at e1
            simp [execOp, e1, go_sem]
        · have d68 : f 68 = .pointer (some ⟨C, 0, none⟩) := hdep ⟨5, .data⟩ (by obtain rfl := Option.some.inj ho; simp) rfl
          refine iv_val ho (by obtain rfl := Option.some.inj ho; rfl) (.pointer (some ⟨C, 0, none⟩)) W ?_ (hB.below HK (Below.refl _ _)) (RR.refl _ _) rfl
          · intro q hq
            obtain rfl := Option.some.inj ho
            have e68 := hq.tmp 68
            simp at e68
            simp [execOp, e68, d68, go_sem]
        · have d69 : f 69 = .pointer (some ⟨C, 0, none⟩) := hdep ⟨6, .data⟩ (by obtain rfl := Option.some.inj ho; simp) rfl
          refine iv_val ho (by obtain rfl := Option.some.inj ho; rfl) (.pointer (some ⟨C, 0, none⟩)) W ?_ (hB.below HK (Below.refl _ _)) (RR.refl _ _) rfl
          · intro q hq
            obtain rfl := Option.some.inj ho
            have e69 := hq.tmp 69
            simp at e69
            simp [execOp, e69, d69, go_sem]
        · have d70 : f 70 = .pointer (some ⟨C, 0, none⟩) := hdep ⟨7, .data⟩ (by obtain rfl := Option.some.inj ho; simp) rfl
          have y0 := (HCC.out W hB.own.2.1).1
          refine iv_val ho (by obtain rfl := Option.some.inj ho; rfl) (.slice (some ⟨go, 0, none⟩) ps.length pcap) W ?_ (hB.below HK (Below.refl _ _)) (RR.refl _ _) rfl
          · intro q hq
            obtain rfl := Option.some.inj ho
            have e70 := hq.tmp 70
            simp at e70
            simp [execOp, e70, d70, go_sem, y0]
        · have d71 : f 71 = .slice (some ⟨go, 0, none⟩) ps.length pcap := hdep ⟨8, .data⟩ (by obtain rfl := Option.some.inj ho; simp) rfl
          refine iv_val ho (by obtain rfl := Option.some.inj ho; rfl) (.int .i64 ps.length) W ?_ (hB.below HK (Below.refl _ _)) (RR.refl _ _) rfl
          · intro q hq
            obtain rfl := Option.some.inj ho
            have e71 := hq.tmp 71
            simp at e71
            simp [execOp, e71, d71, go_sem, resolve, invoke, builtin]
        · have d67 : f 67 = .pointer (some ⟨s, 0, none⟩) := hdep ⟨4, .data⟩ (by obtain rfl := Option.some.inj ho; simp) rfl
          have d72 : f 72 = .int .i64 ps.length := hdep ⟨9, .data⟩ (by obtain rfl := Option.some.inj ho; simp) rfl
          refine iv_call ho (by obtain rfl := Option.some.inj ho; rfl) 23 #[.tmp 67, .tmp 72] _ (by obtain rfl := Option.some.inj ho; rfl) (enters_of Tryz.func23 (by kernel_rfl) rfl) #[.pointer (some ⟨s, 0, none⟩), .int .i64 ps.length] (by intro q hq; have e67 := hq.tmp 67; simp at e67; have e72 := hq.tmp 72; simp at e72; simp [e67, e72, d67, d72]) _ (Next_any s _ ps.length W hB.str (by omega) (by omega)) ?_
          rintro e W' ⟨r, rfl, ⟨hr0, hr1, _⟩, hs', hg'⟩
          exact ⟨_, rfl, hB.call HK hs' (by omega) hg', RR.of_gr hg' (by omega), ⟨r.toNat, by have hps := HPOS; unfold PosL at hps; have := hr1 (by omega); omega, by rw [Int.toNat_of_nonneg hr0]⟩⟩
        · have d66 : f 66 = .slice (some ⟨go, 0, none⟩) ps.length pcap := hdep ⟨3, .data⟩ (by obtain rfl := Option.some.inj ho; simp) rfl
          obtain ⟨jj, hjj, d73⟩ : VJq ps.length (f 73) W := hdep ⟨10, .data⟩ (by obtain rfl := Option.some.inj ho; simp) rfl
          have i1 : (0 : Int) ≤ (jj : Int) := by omega
          have i2 : (jj : Int) < (ps.length : Int) := by omega
          refine iv_val ho (by obtain rfl := Option.some.inj ho; rfl) (.pointer (some ⟨go, jj * 4, none⟩)) W ?_ (hB.below HK (Below.refl _ _)) (RR.refl _ _) ⟨jj, hjj, rfl⟩
          · intro q hq
            obtain rfl := Option.some.inj ho
            have e66 := hq.tmp 66
            have e73 := hq.tmp 73
            simp at e66 e73
            simp [execOp, e66, e73, d66, d73, go_sem, i1, i2]
        · obtain ⟨jj, hjj, d74⟩ : VPq go ps.length 4 (f 74) W := hdep ⟨11, .data⟩ (by obtain rfl := Option.some.inj ho; simp) rfl
          refine iv_val ho (by obtain rfl := Option.some.inj ho; rfl) (.pointer (some ⟨go, jj * 4, none⟩)) W ?_ (hB.below HK (Below.refl _ _)) (RR.refl _ _) ⟨jj, hjj, rfl⟩
          · intro q hq
            obtain rfl := Option.some.inj ho
            have e74 := hq.tmp 74
            simp at e74
            simp [execOp, e74, d74, go_sem]
      intro f9 w9 hB9 hV9
      obtain ⟨jj, hjj, hd4⟩ : VPq go ps.length 4 (f9 5) w9 := hV9 12 (by decide)
      unfold putsA
      simp only [List.mapIdx_toArray, List.mapIdx_cons, List.mapIdx_nil, List.contains_cons]
      simp
      rw [hd4]
      obtain ⟨hS9, ⟨⟨l9, hO9, hn9, hok9⟩, hX9⟩, hz9, hG9⟩ := hB9
      obtain ⟨j, hj⟩ : ∃ j, j = jj := ⟨_, rfl⟩
      rw [← hj] at hjj ⊢
      have hjn : j < ps.length := hjj
      have HXS : Hid (∀ W o v, (XK wb Kp W ∧ OwnR TAl W B (.slice aa l.length acap) l) → (XK wb Kp (W.setCell ⟨go, o, none⟩ v) ∧ OwnR TAl (W.setCell ⟨go, o, none⟩ v) B (.slice aa l.length acap) l)) := Lib.hid fun W o v hW => ⟨hW.1.set HKP.out hgo o v, (ownR_k TAl B).keep hW.2 fun k hk => Below.heap_setCell _ ⟨go, o, none⟩ _ k (HOTY.out k hk)⟩
      have hS9' := hS9.mono (d := c + 2 + 300) (by omega)
      have ls9 := hS9'.lt
      have lgo9 : go < w9.heap.size := (World.ownsRow.lt hO9 go rfl).2
      clear hV9 hd4 hj hjj HX8 hX8 hS8 hp8 ha8 hS9 hG8
      go_wp2
      refine wp_region_inv (by kernel_rfl) [75, 76, 77, 78, 79, 80, 81, 82, 83, 84, 85, 86, 87, 88, 89, 90, 91, 92, 93, 94, 95, 96, 97, 98, 99, 100, 101, 102, 103, 104] (RB (fun W => (∃ l' : List Prt, OwnR TPt W B (.slice (some ⟨go, 0, none⟩) ps.length pcap) l' ∧ l'.length = ps.length ∧ ∀ x ∈ l', PrtS x) ∧ (XK wb Kp W ∧ OwnR TAl W B (.slice aa l.length acap) l)) w0 s (w9.heap.size) (c + 2 + 700)) (RR (w9.heap.size)) (fun i => [VE (.pointer (some ⟨go, j * 4, none⟩)), VE (.pointer (some ⟨go, j * 4, none⟩)), VE (.pointer (some ⟨go, j * 4, none⟩)), VE (.pointer (some ⟨s, 0, none⟩)), VE (.pointer (some ⟨go, j * 4, none⟩)), VE (.pointer (some ⟨go, j * 4, none⟩)), VE (.pointer (some ⟨go, j * 4, none⟩)), VS 5, VLS (w9.heap.size) 5 3, VS 5, VE (.pointer (some ⟨s, 0, none⟩)), VE (.pointer (some ⟨go, j * 4, none⟩)), VE (.pointer (some ⟨go, j * 4, none⟩)), VE (.pointer (some ⟨go, j * 4 + 2, none⟩)), VI (-1099511627777) 1099511627777, VLI (w9.heap.size) (-1099511627777) 1099511627777 3, VI (-1099511627777) 1099511627777, VE (.pointer (some ⟨s, 0, none⟩)), VE (.pointer (some ⟨go, j * 4, none⟩)), VE (.pointer (some ⟨go, j * 4, none⟩)), VE (.pointer (some ⟨go, j * 4 + 3, none⟩)), VI (-1099511627777) 1099511627777, VLI (w9.heap.size) (-1099511627777) 1099511627777 3, VI (-1099511627777) 1099511627777, VE (.pointer (some ⟨go, j * 4, none⟩)), VE (.pointer (some ⟨go, j * 4, none⟩)), VT, VE (.pointer (some ⟨go, j * 4, none⟩)), VE (.pointer (some ⟨go, j * 4 + 2, none⟩)), VT, VE (.pointer (some ⟨go, j * 4, none⟩)), VE (.pointer (some ⟨go, j * 4 + 3, none⟩)), VT].getD i VT) (by kernel_rfl) (by kernel_rfl) (fun u u' W hu h => h.mono hu) ?_ ?_ ?_ ?_ ?_
      · exact ⟨(hS9'.drew).mono (by show _ ≤ (c + 2 + 700) - 10 * ((33 : Nat) : Int); omega), ⟨⟨l9, hO9, hn9, hok9⟩, hX9⟩, Nat.le_refl _, ⟨hG9.os, hG9.tape, hG9.output, hG9.size, hG9.block⟩⟩
      · intro u W W' i v hB hR hV
        exact match i, hV with
          | 0, h => h
          | 1, h => h
          | 2, h => h
          | 3, h => h
          | 4, h => h
          | 5, h => h
          | 6, h => h
          | 7, h => h
          | 8, h => VLS.stab h hR
          | 9, h => h
          | 10, h => h
          | 11, h => h
          | 12, h => h
          | 13, h => h
          | 14, h => h
          | 15, h => VLI.stab h hR
          | 16, h => h
          | 17, h => h
          | 18, h => h
          | 19, h => h
          | 20, h => h
          | 21, h => h
          | 22, h => VLI.stab h hR
          | 23, h => h
          | 24, h => h
          | 25, h => h
          | 26, h => h
          | 27, h => h
          | 28, h => h
          | 29, h => h
          | 30, h => h
          | 31, h => h
          | 32, h => h
          | (_ + 33), _ => trivial
      · intro i o v W ho hd
        match i, ho with
          | 0, ho => (obtain rfl := Option.some.inj ho; cases hd)
          | 1, ho => (obtain rfl := Option.some.inj ho; cases hd)
          | 2, ho => (obtain rfl := Option.some.inj ho; cases hd)
          | 3, ho => (obtain rfl := Option.some.inj ho; cases hd)
          | 4, ho => (obtain rfl := Option.some.inj ho; cases hd)
          | 5, ho => (obtain rfl := Option.some.inj ho; cases hd)
          | 6, ho => (obtain rfl := Option.some.inj ho; cases hd)
          | 7, ho => (obtain rfl := Option.some.inj ho; cases hd)
          | 8, ho => (obtain rfl := Option.some.inj ho; cases hd)
          | 9, ho => (obtain rfl := Option.some.inj ho; cases hd)
          | 10, ho => (obtain rfl := Option.some.inj ho; cases hd)
          | 11, ho => (obtain rfl := Option.some.inj ho; cases hd)
          | 12, ho => (obtain rfl := Option.some.inj ho; cases hd)
          | 13, ho => (obtain rfl := Option.some.inj ho; cases hd)
          | 14, ho => (obtain rfl := Option.some.inj ho; cases hd)
          | 15, ho => (obtain rfl := Option.some.inj ho; cases hd)
          | 16, ho => (obtain rfl := Option.some.inj ho; cases hd)
          | 17, ho => (obtain rfl := Option.some.inj ho; cases hd)
          | 18, ho => (obtain rfl := Option.some.inj ho; cases hd)
          | 19, ho => (obtain rfl := Option.some.inj ho; cases hd)
          | 20, ho => (obtain rfl := Option.some.inj ho; cases hd)
          | 21, ho => (obtain rfl := Option.some.inj ho; cases hd)
          | 22, ho => (obtain rfl := Option.some.inj ho; cases hd)
          | 23, ho => (obtain rfl := Option.some.inj ho; cases hd)
          | 24, ho => (obtain rfl := Option.some.inj ho; cases hd)
          | 25, ho => (obtain rfl := Option.some.inj ho; cases hd)
          | 26, ho => trivial
          | 27, ho => (obtain rfl := Option.some.inj ho; cases hd)
          | 28, ho => (obtain rfl := Option.some.inj ho; cases hd)
          | 29, ho => trivial
          | 30, ho => (obtain rfl := Option.some.inj ho; cases hd)
          | 31, ho => (obtain rfl := Option.some.inj ho; cases hd)
          | 32, ho => trivial
          | (_ + 33), _ => trivial
      · intro i o u f W ho hi hB hdep
        have hi' : i = 0 ∨ i = 1 ∨ i = 2 ∨ i = 3 ∨ i = 4 ∨ i = 5 ∨ i = 6 ∨ i = 7 ∨ i = 8 ∨ i = 9 ∨ i = 10 ∨ i = 11 ∨ i = 12 ∨ i = 13 ∨ i = 14 ∨ i = 15 ∨ i = 16 ∨ i = 17 ∨ i = 18 ∨ i = 19 ∨ i = 20 ∨ i = 21 ∨ i = 22 ∨ i = 23 ∨ i = 24 ∨ i = 25 ∨ i = 26 ∨ i = 27 ∨ i = 28 ∨ i = 29 ∨ i = 30 ∨ i = 31 ∨ i = 32 := by
          have : i < 33 := hi
          omega
        rcases hi' with rfl | rfl | rfl | rfl | rfl | rfl | rfl | rfl | rfl | rfl | rfl | rfl | rfl | rfl | rfl | rfl | rfl | rfl | rfl | rfl | rfl | rfl | rfl | rfl | rfl | rfl | rfl | rfl | rfl | rfl | rfl | rfl | rfl
        · refine iv_val ho (by obtain rfl := Option.some.inj ho; rfl) (.pointer (some ⟨go, j * 4, none⟩)) W ?_ (hB.below HK (Below.refl _ _)) (RR.refl _ _) rfl
          · intro q hq
            obtain rfl := Option.some.inj ho
            have e5 := hq.tmp 5
            simp at e5
            simp [execOp, e5, go_sem]
        · refine iv_val ho (by obtain rfl := Option.some.inj ho; rfl) (.pointer (some ⟨go, j * 4, none⟩)) W ?_ (hB.below HK (Below.refl _ _)) (RR.refl _ _) rfl
          · intro q hq
            obtain rfl := Option.some.inj ho
            have e5 := hq.tmp 5
            simp at e5
            simp [execOp, e5, go_sem]
        · refine iv_val ho (by obtain rfl := Option.some.inj ho; rfl) (.pointer (some ⟨go, j * 4, none⟩)) W ?_ (hB.below HK (Below.refl _ _)) (RR.refl _ _) rfl
          · intro q hq
            obtain rfl := Option.some.inj ho
            have e5 := hq.tmp 5
            simp at e5
            simp [execOp, e5, go_sem]
        · refine iv_val ho (by obtain rfl := Option.some.inj ho; rfl) (.pointer (some ⟨s, 0, none⟩)) W ?_ (hB.below HK (Below.refl _ _)) (RR.refl _ _) rfl
          · intro q hq
            obtain rfl := Option.some.inj ho
            have e0 := hq.tmp 0
            simp at e0
            simp [execOp, e0, go_sem]
        · refine iv_val ho (by obtain rfl := Option.some.inj ho; rfl) (.pointer (some ⟨go, j * 4, none⟩)) W ?_ (hB.below HK (Below.refl _ _)) (RR.refl _ _) rfl
          · intro q hq
            obtain rfl := Option.some.inj ho
            have e5 := hq.tmp 5
            simp at e5
            simp [execOp, e5, go_sem]
        · have d79 : f 79 = .pointer (some ⟨go, j * 4, none⟩) := hdep ⟨4, .data⟩ (by obtain rfl := Option.some.inj ho; simp) rfl
          refine iv_val ho (by obtain rfl := Option.some.inj ho; rfl) (.pointer (some ⟨go, j * 4, none⟩)) W ?_ (hB.below HK (Below.refl _ _)) (RR.refl _ _) rfl
          · intro q hq
            obtain rfl := Option.some.inj ho
            have e79 := hq.tmp 79
            simp at e79
            simp [execOp, e79, d79, go_sem]
        · have d80 : f 80 = .pointer (some ⟨go, j * 4, none⟩) := hdep ⟨5, .data⟩ (by obtain rfl := Option.some.inj ho; simp) rfl
          refine iv_val ho (by obtain rfl := Option.some.inj ho; rfl) (.pointer (some ⟨go, j * 4, none⟩)) W ?_ (hB.below HK (Below.refl _ _)) (RR.refl _ _) rfl
          · intro q hq
            obtain rfl := Option.some.inj ho
            have e80 := hq.tmp 80
            simp at e80
            simp [execOp, e80, d80, go_sem]
        · have d81 : f 81 = .pointer (some ⟨go, j * 4, none⟩) := hdep ⟨6, .data⟩ (by obtain rfl := Option.some.inj ho; simp) rfl
          obtain ⟨⟨l', hO', hn', hOk'⟩, hx'⟩ := hB.own
          obtain ⟨x0, hx0⟩ : ∃ x, l'[j]? = some x := ⟨_, List.getElem?_eq_getElem (by omega)⟩
          have hok0 := hOk' _ (List.mem_of_getElem? hx0)
          have y0 : W.cell? ⟨go, j * 4, none⟩ = some (.string x0.1) := (OwnR.cellf TPt.ok hO' hn'.symm hx0 (fo := 0) rfl).1
          refine iv_val ho (by obtain rfl := Option.some.inj ho; rfl) (.string x0.1) W ?_ (hB.below HK (Below.refl _ _)) (RR.refl _ _) ⟨_, rfl, hok0.1⟩
          · intro q hq
            obtain rfl := Option.some.inj ho
            have e81 := hq.tmp 81
            simp at e81
            simp [execOp, e81, d81, go_sem, y0]
        · obtain ⟨x82, d82, p82⟩ : VS 5 (f 82) W := hdep ⟨7, .data⟩ (by obtain rfl := Option.some.inj ho; simp) rfl
          refine iv_val ho (by obtain rfl := Option.some.inj ho; rfl) (.slice (some ⟨W.heap.size, 0, none⟩) 3 3) (W.alloc (.cells #[.string x82, .string (⟨#[]⟩ : ByteArray), .string (⟨#[98]⟩ : ByteArray)] 9)) ?_ (hB.below HK (Bl.alloc (Below.refl _ _) _)) (RR.of_below (Bl.alloc (Below.refl _ _) _)) ⟨[x82, (⟨#[]⟩ : ByteArray), (⟨#[98]⟩ : ByteArray)], ⟨_, rfl⟩, rfl, RecR.of_blk (T := TS) (blk_new _ _) rfl rfl (by simp) (by omega) hB.size, ?_⟩
          · intro q hq
            obtain rfl := Option.some.inj ho
            have e82 := hq.tmp 82
            simp at e82
            simp [execOp, hq.const, e82, d82, go_sem]
          · intro x hx
            simp only [List.mem_cons, List.not_mem_nil, or_false] at hx
            rcases hx with rfl | rfl | rfl
            all_goals (first | assumption | (show _ ≤ 5; decide))
        · have d78 : f 78 = .pointer (some ⟨s, 0, none⟩) := hdep ⟨3, .data⟩ (by obtain rfl := Option.some.inj ho; simp) rfl
          obtain ⟨li, ⟨bi, d83⟩, hli, hri, hbi⟩ : VLS (w9.heap.size) 5 3 (f 83) W := hdep ⟨8, .data⟩ (by obtain rfl := Option.some.inj ho; simp) rfl
          refine iv_call ho (by obtain rfl := Option.some.inj ho; rfl) 34 #[.tmp 78, .tmp 83] _ (by obtain rfl := Option.some.inj ho; rfl) (enters_of Tryz.func34 (by kernel_rfl) rfl) #[.pointer (some ⟨s, 0, none⟩), f 83] (by intro q hq; have e78 := hq.tmp 78; simp at e78; have e83 := hq.tmp 83; simp at e83; simp [e78, e83, d78]) _ (Some_any s _ li (f 83) W hB.str (by omega) (Rd.mono hri (by omega)) (by omega) (by omega)) ?_
          rintro e W' ⟨r, rfl, hr, hs', hg'⟩
          exact ⟨_, rfl, hB.call HK hs' (by omega) hg', RR.of_gr hg' (by omega), ⟨r, rfl, hbi r hr⟩⟩
        · refine iv_val ho (by obtain rfl := Option.some.inj ho; rfl) (.pointer (some ⟨s, 0, none⟩)) W ?_ (hB.below HK (Below.refl _ _)) (RR.refl _ _) rfl
          · intro q hq
            obtain rfl := Option.some.inj ho
            have e0 := hq.tmp 0
            simp at e0
            simp [execOp, e0, go_sem]
        · refine iv_val ho (by obtain rfl := Option.some.inj ho; rfl) (.pointer (some ⟨go, j * 4, none⟩)) W ?_ (hB.below HK (Below.refl _ _)) (RR.refl _ _) rfl
          · intro q hq
            obtain rfl := Option.some.inj ho
            have e5 := hq.tmp 5
            simp at e5
            simp [execOp, e5, go_sem]
        · have d86 : f 86 = .pointer (some ⟨go, j * 4, none⟩) := hdep ⟨11, .data⟩ (by obtain rfl := Option.some.inj ho; simp) rfl
          refine iv_val ho (by obtain rfl := Option.some.inj ho; rfl) (.pointer (some ⟨go, j * 4, none⟩)) W ?_ (hB.below HK (Below.refl _ _)) (RR.refl _ _) rfl
          · intro q hq
            obtain rfl := Option.some.inj ho
            have e86 := hq.tmp 86
            simp at e86
            simp [execOp, e86, d86, go_sem]
        · have d87 : f 87 = .pointer (some ⟨go, j * 4, none⟩) := hdep ⟨12, .data⟩ (by obtain rfl := Option.some.inj ho; simp) rfl
          refine iv_val ho (by obtain rfl := Option.some.inj ho; rfl) (.pointer (some ⟨go, j * 4 + 2, none⟩)) W ?_ (hB.below HK (Below.refl _ _)) (RR.refl _ _) rfl
          · intro q hq
            obtain rfl := Option.some.inj ho
            have e87 := hq.tmp 87
            simp at e87
            simp [execOp, e87, d87, go_sem]
        · have d88 : f 88 = .pointer (some ⟨go, j * 4 + 2, none⟩) := hdep ⟨13, .data⟩ (by obtain rfl := Option.some.inj ho; simp) rfl
          obtain ⟨⟨l', hO', hn', hOk'⟩, hx'⟩ := hB.own
          obtain ⟨x0, hx0⟩ : ∃ x, l'[j]? = some x := ⟨_, List.getElem?_eq_getElem (by omega)⟩
          have hok0 := hOk' _ (List.mem_of_getElem? hx0)
          have y0 : W.cell? ⟨go, j * 4 + 2, none⟩ = some (.int .i64 x0.2.2.1) := (OwnR.cellf TPt.ok hO' hn'.symm hx0 (fo := 2) rfl).1
          refine iv_val ho (by obtain rfl := Option.some.inj ho; rfl) (.int .i64 x0.2.2.1) W ?_ (hB.below HK (Below.refl _ _)) (RR.refl _ _) ⟨_, rfl, hok0.2.2.1, hok0.2.2.2.1⟩
          · intro q hq
            obtain rfl := Option.some.inj ho
            have e88 := hq.tmp 88
            simp at e88
            simp [execOp, e88, d88, go_sem, y0]
        · obtain ⟨x89, d89, p89, r89⟩ : VI (-1099511627777) 1099511627777 (f 89) W := hdep ⟨14, .data⟩ (by obtain rfl := Option.some.inj ho; simp) rfl
          refine iv_val ho (by obtain rfl := Option.some.inj ho; rfl) (.slice (some ⟨W.heap.size, 0, none⟩) 3 3) (W.alloc (.cells #[.int .i64 x89, .int .i64 (0 : Int), .int .i64 (7 : Int)] 3)) ?_ (hB.below HK (Bl.alloc (Below.refl _ _) _)) (RR.of_below (Bl.alloc (Below.refl _ _) _)) ⟨[x89, (0 : Int), (7 : Int)], ⟨_, rfl⟩, rfl, Ints.of_blk (blk_new _ _) rfl rfl (by simp) (by omega) hB.size, ?_⟩
          · intro q hq
            obtain rfl := Option.some.inj ho
            have e89 := hq.tmp 89
            simp at e89
            simp [execOp, hq.const, e89, d89, go_sem]
          · intro x hx
            simp only [List.mem_cons, List.not_mem_nil, or_false] at hx
            rcases hx with rfl | rfl | rfl
            all_goals omega
        · have d85 : f 85 = .pointer (some ⟨s, 0, none⟩) := hdep ⟨10, .data⟩ (by obtain rfl := Option.some.inj ho; simp) rfl
          obtain ⟨li, ⟨bi, d90⟩, hli, hri, hbi⟩ : VLI (w9.heap.size) (-1099511627777) 1099511627777 3 (f 90) W := hdep ⟨15, .data⟩ (by obtain rfl := Option.some.inj ho; simp) rfl
          refine iv_call ho (by obtain rfl := Option.some.inj ho; rfl) 35 #[.tmp 85, .tmp 90] _ (by obtain rfl := Option.some.inj ho; rfl) (enters_of Tryz.func35 (by kernel_rfl) rfl) #[.pointer (some ⟨s, 0, none⟩), f 90] (by intro q hq; have e85 := hq.tmp 85; simp at e85; have e90 := hq.tmp 90; simp at e90; simp [e85, e90, d85]) _ (Pick_any s _ li (f 90) W hB.str (by omega) (Rd.mono hri (by omega)) (by omega) (by omega)) ?_
          rintro e W' ⟨r, rfl, hr, hs', hg'⟩
          exact ⟨_, rfl, hB.call HK hs' (by omega) hg', RR.of_gr hg' (by omega), ⟨r, rfl, hbi r hr⟩⟩
        · refine iv_val ho (by obtain rfl := Option.some.inj ho; rfl) (.pointer (some ⟨s, 0, none⟩)) W ?_ (hB.below HK (Below.refl _ _)) (RR.refl _ _) rfl
          · intro q hq
            obtain rfl := Option.some.inj ho
            have e0 := hq.tmp 0
            simp at e0
            simp [execOp, e0, go_sem]
        · refine iv_val ho (by obtain rfl := Option.some.inj ho; rfl) (.pointer (some ⟨go, j * 4, none⟩)) W ?_ (hB.below HK (Below.refl _ _)) (RR.refl _ _) rfl
          · intro q hq
            obtain rfl := Option.some.inj ho
            have e5 := hq.tmp 5
            simp at e5
            simp [execOp, e5, go_sem]
        · have d93 : f 93 = .pointer (some ⟨go, j * 4, none⟩) := hdep ⟨18, .data⟩ (by obtain rfl := Option.some.inj ho; simp) rfl
          refine iv_val ho (by obtain rfl := Option.some.inj ho; rfl) (.pointer (some ⟨go, j * 4, none⟩)) W ?_ (hB.below HK (Below.refl _ _)) (RR.refl _ _) rfl
          · intro q hq
            obtain rfl := Option.some.inj ho
            have e93 := hq.tmp 93
            simp at e93
            simp [execOp, e93, d93, go_sem]
        · have d94 : f 94 = .pointer (some ⟨go, j * 4, none⟩) := hdep ⟨19, .data⟩ (by obtain rfl := Option.some.inj ho; simp) rfl
          refine iv_val ho (by obtain rfl := Option.some.inj ho; rfl) (.pointer (some ⟨go, j * 4 + 3, none⟩)) W ?_ (hB.below HK (Below.refl _ _)) (RR.refl _ _) rfl
          · intro q hq
            obtain rfl := Option.some.inj ho
            have e94 := hq.tmp 94
            simp at e94
            simp [execOp, e94, d94, go_sem]
        · have d95 : f 95 = .pointer (some ⟨go, j * 4 + 3, none⟩) := hdep ⟨20, .data⟩ (by obtain rfl := Option.some.inj ho; simp) rfl
          obtain ⟨⟨l', hO', hn', hOk'⟩, hx'⟩ := hB.own
          obtain ⟨x0, hx0⟩ : ∃ x, l'[j]? = some x := ⟨_, List.getElem?_eq_getElem (by omega)⟩
          have hok0 := hOk' _ (List.mem_of_getElem? hx0)
          have y0 : W.cell? ⟨go, j * 4 + 3, none⟩ = some (.int .i64 x0.2.2.2) := (OwnR.cellf TPt.ok hO' hn'.symm hx0 (fo := 3) rfl).1
          refine iv_val ho (by obtain rfl := Option.some.inj ho; rfl) (.int .i64 x0.2.2.2) W ?_ (hB.below HK (Below.refl _ _)) (RR.refl _ _) ⟨_, rfl, hok0.2.2.2.2.1, hok0.2.2.2.2.2⟩
          · intro q hq
            obtain rfl := Option.some.inj ho
            have e95 := hq.tmp 95
            simp at e95
            simp [execOp, e95, d95, go_sem, y0]
        · obtain ⟨x96, d96, p96, r96⟩ : VI (-1099511627777) 1099511627777 (f 96) W := hdep ⟨21, .data⟩ (by obtain rfl := Option.some.inj ho; simp) rfl
          refine iv_val ho (by obtain rfl := Option.some.inj ho; rfl) (.slice (some ⟨W.heap.size, 0, none⟩) 3 3) (W.alloc (.cells #[.int .i64 x96, .int .i64 (-1 : Int), .int .i64 (720000001 : Int)] 3)) ?_ (hB.below HK (Bl.alloc (Below.refl _ _) _)) (RR.of_below (Bl.alloc (Below.refl _ _) _)) ⟨[x96, (-1 : Int), (720000001 : Int)], ⟨_, rfl⟩, rfl, Ints.of_blk (blk_new _ _) rfl rfl (by simp) (by omega) hB.size, ?_⟩
          · intro q hq
            obtain rfl := Option.some.inj ho
            have e96 := hq.tmp 96
            simp at e96
            simp [execOp, hq.const, e96, d96, go_sem]
          · intro x hx
            simp only [List.mem_cons, List.not_mem_nil, or_false] at hx
            rcases hx with rfl | rfl | rfl
            all_goals omega
        · have d92 : f 92 = .pointer (some ⟨s, 0, none⟩) := hdep ⟨17, .data⟩ (by obtain rfl := Option.some.inj ho; simp) rfl
          obtain ⟨li, ⟨bi, d97⟩, hli, hri, hbi⟩ : VLI (w9.heap.size) (-1099511627777) 1099511627777 3 (f 97) W := hdep ⟨22, .data⟩ (by obtain rfl := Option.some.inj ho; simp) rfl
          refine iv_call ho (by obtain rfl := Option.some.inj ho; rfl) 35 #[.tmp 92, .tmp 97] _ (by obtain rfl := Option.some.inj ho; rfl) (enters_of Tryz.func35 (by kernel_rfl) rfl) #[.pointer (some ⟨s, 0, none⟩), f 97] (by intro q hq; have e92 := hq.tmp 92; simp at e92; have e97 := hq.tmp 97; simp at e97; simp [e92, e97, d92]) _ (Pick_any s _ li (f 97) W hB.str (by omega) (Rd.mono hri (by omega)) (by omega) (by omega)) ?_
          rintro e W' ⟨r, rfl, hr, hs', hg'⟩
          exact ⟨_, rfl, hB.call HK hs' (by omega) hg', RR.of_gr hg' (by omega), ⟨r, rfl, hbi r hr⟩⟩
        · have d75 : f 75 = .pointer (some ⟨go, j * 4, none⟩) := hdep ⟨0, .data⟩ (by obtain rfl := Option.some.inj ho; simp) rfl
          refine iv_val ho (by obtain rfl := Option.some.inj ho; rfl) (.pointer (some ⟨go, j * 4, none⟩)) W ?_ (hB.below HK (Below.refl _ _)) (RR.refl _ _) rfl
          · intro q hq
            obtain rfl := Option.some.inj ho
            have e75 := hq.tmp 75
            simp at e75
            simp [execOp, e75, d75, go_sem]
        · have d99 : f 99 = .pointer (some ⟨go, j * 4, none⟩) := hdep ⟨24, .data⟩ (by obtain rfl := Option.some.inj ho; simp) rfl
          refine iv_val ho (by obtain rfl := Option.some.inj ho; rfl) (.pointer (some ⟨go, j * 4, none⟩)) W ?_ (hB.below HK (Below.refl _ _)) (RR.refl _ _) rfl
          · intro q hq
            obtain rfl := Option.some.inj ho
            have e99 := hq.tmp 99
            simp at e99
            simp [execOp, e99, d99, go_sem]
        · have d100 : f 100 = .pointer (some ⟨go, j * 4, none⟩) := hdep ⟨25, .data⟩ (by obtain rfl := Option.some.inj ho; simp) rfl
          obtain ⟨x84, d84, p84⟩ : VS 5 (f 84) W := hdep ⟨9, .data⟩ (by obtain rfl := Option.some.inj ho; simp) rfl
          obtain ⟨⟨l', hO', hn', hOk'⟩, hx'⟩ := hB.own
          obtain ⟨x0, hx0⟩ : ∃ x, l'[j]? = some x := ⟨_, List.getElem?_eq_getElem (by omega)⟩
          have hok0 := hOk' _ (List.mem_of_getElem? hx0)
          obtain ⟨y0, g0⟩ := OwnR.cellf TPt.ok hO' hn'.symm hx0 (fo := 0) rfl
          replace y0 : W.cell? ⟨go, j * 4, none⟩ = some (.string x0.1) := y0
          replace g0 : W.frozen? ⟨go, j * 4, none⟩ = false := g0
          have hO2 : OwnR TPt (W.setCell ⟨go, j * 4, none⟩ (.string x84)) B (.slice (some ⟨go, 0, none⟩) ps.length pcap) (l'.set j ((x84, x0.2))) := OwnR.setf TPt.ok hO' hn'.symm hx0 (fo := 0) (by decide) rfl
          refine iv_skip ho (by obtain rfl := Option.some.inj ho; rfl) (by obtain rfl := Option.some.inj ho; rfl) (W.setCell ⟨go, j * 4, none⟩ (.string x84)) ?_ (hB.store (by omega) hs ⟨⟨_, hO2, by rw [List.length_set]; exact hn', ?_⟩, HXS.out W _ _ hx'⟩) ⟨by simp, fun i h1 h2 => ?_⟩ trivial
          · intro q hq
            obtain rfl := Option.some.inj ho
            have e84 := hq.tmp 84
            have e100 := hq.tmp 100
            simp at e84 e100
            simp [execOp, e84, e100, d84, d100, go_sem, y0, g0]
          · intro x hx
            rcases List.mem_or_eq_of_mem_set hx with h | rfl
            · exact hOk' x h
            · exact ⟨p84, hok0.2⟩
          · exact Below.heap_setCell _ _ _ _ (by show i ≠ go; omega)
        · have d76 : f 76 = .pointer (some ⟨go, j * 4, none⟩) := hdep ⟨1, .data⟩ (by obtain rfl := Option.some.inj ho; simp) rfl
          refine iv_val ho (by obtain rfl := Option.some.inj ho; rfl) (.pointer (some ⟨go, j * 4, none⟩)) W ?_ (hB.below HK (Below.refl _ _)) (RR.refl _ _) rfl
          · intro q hq
            obtain rfl := Option.some.inj ho
            have e76 := hq.tmp 76
            simp at e76
            simp [execOp, e76, d76, go_sem]
        · have d101 : f 101 = .pointer (some ⟨go, j * 4, none⟩) := hdep ⟨27, .data⟩ (by obtain rfl := Option.some.inj ho; simp) rfl
          refine iv_val ho (by obtain rfl := Option.some.inj ho; rfl) (.pointer (some ⟨go, j * 4 + 2, none⟩)) W ?_ (hB.below HK (Below.refl _ _)) (RR.refl _ _) rfl
          · intro q hq
            obtain rfl := Option.some.inj ho
            have e101 := hq.tmp 101
            simp at e101
            simp [execOp, e101, d101, go_sem]
        · have d102 : f 102 = .pointer (some ⟨go, j * 4 + 2, none⟩) := hdep ⟨28, .data⟩ (by obtain rfl := Option.some.inj ho; simp) rfl
          obtain ⟨x91, d91, p91, r91⟩ : VI (-1099511627777) 1099511627777 (f 91) W := hdep ⟨16, .data⟩ (by obtain rfl := Option.some.inj ho; simp) rfl
          obtain ⟨⟨l', hO', hn', hOk'⟩, hx'⟩ := hB.own
          obtain ⟨x0, hx0⟩ : ∃ x, l'[j]? = some x := ⟨_, List.getElem?_eq_getElem (by omega)⟩
          have hok0 := hOk' _ (List.mem_of_getElem? hx0)
          obtain ⟨y0, g0⟩ := OwnR.cellf TPt.ok hO' hn'.symm hx0 (fo := 2) rfl
          replace y0 : W.cell? ⟨go, j * 4 + 2, none⟩ = some (.int .i64 x0.2.2.1) := y0
          replace g0 : W.frozen? ⟨go, j * 4 + 2, none⟩ = false := g0
          have hO2 : OwnR TPt (W.setCell ⟨go, j * 4 + 2, none⟩ (.int .i64 x91)) B (.slice (some ⟨go, 0, none⟩) ps.length pcap) (l'.set j ((x0.1, x0.2.1, x91, x0.2.2.2))) := OwnR.setf TPt.ok hO' hn'.symm hx0 (fo := 2) (by decide) rfl
          refine iv_skip ho (by obtain rfl := Option.some.inj ho; rfl) (by obtain rfl := Option.some.inj ho; rfl) (W.setCell ⟨go, j * 4 + 2, none⟩ (.int .i64 x91)) ?_ (hB.store (by omega) hs ⟨⟨_, hO2, by rw [List.length_set]; exact hn', ?_⟩, HXS.out W _ _ hx'⟩) ⟨by simp, fun i h1 h2 => ?_⟩ trivial
          · intro q hq
            obtain rfl := Option.some.inj ho
            have e91 := hq.tmp 91
            have e102 := hq.tmp 102
            simp at e91 e102
            simp [execOp, e91, e102, d91, d102, go_sem, y0, g0]
          · intro x hx
            rcases List.mem_or_eq_of_mem_set hx with h | rfl
            · exact hOk' x h
            · exact ⟨hok0.1, hok0.2.1, p91, r91, hok0.2.2.2.2⟩
          · exact Below.heap_setCell _ _ _ _ (by show i ≠ go; omega)
        · have d77 : f 77 = .pointer (some ⟨go, j * 4, none⟩) := hdep ⟨2, .data⟩ (by obtain rfl := Option.some.inj ho; simp) rfl
          refine iv_val ho (by obtain rfl := Option.some.inj ho; rfl) (.pointer (some ⟨go, j * 4, none⟩)) W ?_ (hB.below HK (Below.refl _ _)) (RR.refl _ _) rfl
          · intro q hq
            obtain rfl := Option.some.inj ho
            have e77 := hq.tmp 77
            simp at e77
            simp [execOp, e77, d77, go_sem]
        · have d103 : f 103 = .pointer (some ⟨go, j * 4, none⟩) := hdep ⟨30, .data⟩ (by obtain rfl := Option.some.inj ho; simp) rfl
          refine iv_val ho (by obtain rfl := Option.some.inj ho; rfl) (.pointer (some ⟨go, j * 4 + 3, none⟩)) W ?_ (hB.below HK (Below.refl _ _)) (RR.refl _ _) rfl
          · intro q hq
            obtain rfl := Option.some.inj ho
            have e103 := hq.tmp 103
            simp at e103
            simp [execOp, e103, d103, go_sem]
        · have d104 : f 104 = .pointer (some ⟨go, j * 4 + 3, none⟩) := hdep ⟨31, .data⟩ (by obtain rfl := Option.some.inj ho; simp) rfl
          obtain ⟨x98, d98, p98, r98⟩ : VI (-1099511627777) 1099511627777 (f 98) W := hdep ⟨23, .data⟩ (by obtain rfl := Option.some.inj ho; simp) rfl
          obtain ⟨⟨l', hO', hn', hOk'⟩, hx'⟩ := hB.own
          obtain ⟨x0, hx0⟩ : ∃ x, l'[j]? = some x := ⟨_, List.getElem?_eq_getElem (by omega)⟩
          have hok0 := hOk' _ (List.mem_of_getElem? hx0)
          obtain ⟨y0, g0⟩ := OwnR.cellf TPt.ok hO' hn'.symm hx0 (fo := 3) rfl
          replace y0 : W.cell? ⟨go, j * 4 + 3, none⟩ = some (.int .i64 x0.2.2.2) := y0
          replace g0 : W.frozen? ⟨go, j * 4 + 3, none⟩ = false := g0
          have hO2 : OwnR TPt (W.setCell ⟨go, j * 4 + 3, none⟩ (.int .i64 x98)) B (.slice (some ⟨go, 0, none⟩) ps.length pcap) (l'.set j ((x0.1, x0.2.1, x0.2.2.1, x98))) := OwnR.setf TPt.ok hO' hn'.symm hx0 (fo := 3) (by decide) rfl
          refine iv_skip ho (by obtain rfl := Option.some.inj ho; rfl) (by obtain rfl := Option.some.inj ho; rfl) (W.setCell ⟨go, j * 4 + 3, none⟩ (.int .i64 x98)) ?_ (hB.store (by omega) hs ⟨⟨_, hO2, by rw [List.length_set]; exact hn', ?_⟩, HXS.out W _ _ hx'⟩) ⟨by simp, fun i h1 h2 => ?_⟩ trivial
          · intro q hq
            obtain rfl := Option.some.inj ho
            have e98 := hq.tmp 98
            have e104 := hq.tmp 104
            simp at e98 e104
            simp [execOp, e98, e104, d98, d104, go_sem, y0, g0]
          · intro x hx
            rcases List.mem_or_eq_of_mem_set hx with h | rfl
            · exact hOk' x h
            · exact ⟨hok0.1, hok0.2.1, hok0.2.2.1, hok0.2.2.2.1, p98, r98⟩
          · exact Below.heap_setCell _ _ _ _ (by show i ≠ go; omega)
      intro f wz hB' hV
      unfold putsA
      simp only [List.mapIdx_toArray, List.mapIdx_cons, List.mapIdx_nil, List.contains_cons]
      simp
      obtain ⟨hSz, ⟨⟨lz, hOz, hnz, hokz⟩, hXz⟩, _, hGz⟩ := hB'
      have HF := Lib.hid (show CatOk wz B (.slice (some ⟨go, 0, none⟩) ps.length pcap) (.slice aa l.length acap) ps.length l.length ∧ XK wb Kp wz ∧ Str wz s (c + 1000) ∧ w0.grownBy wz (some s) from ⟨⟨lz, l, hnz, rfl, hOz, hXz.2, hokz, oka⟩, hXz.1, hSz.mono (by omega), hGz⟩)
      clear hSz hOz hGz hokz hXz hV HK hO9 hS9' hG9
      go_wp2
      go_end0
      exact ⟨rfl, HF.out.1, HF.out.2.1, HF.out.2.2.1, HF.out.2.2.2⟩
  · have h0' : (0 : Int) < (l.length : Int) := by omega
    go_wp2_with fail
    refine (Flip_any s c 2 w h (by omega) (by omega)).mono ?_
    rintro e w8 ⟨fl, rfl, hS8, hG⟩
    have hX8 := hX1.gr HKP.out hG
    have hp8 := hp.grown hG (by omega)
    have ha8 := ha.grown hG (by omega)
    have hG8 := Gr.trans h0g hG
    obtain ⟨cd0, cd1, lC⟩ := HCC.out w8 hX8
    clear h hp ha hG hX1
    cases fl
    · have hq0 := h0
      clear h0
      by_cases h0 : ps.length = 0
      · have h1' : ¬ (0 : Int) < (ps.length : Int) := by omega
        have HF := Lib.hid (And.intro hX8 (And.intro (hS8.mono (d := c + 1000) (by omega)) hG8))
        have HF2 := Lib.hid (show CatOk w8 B (.slice pa ps.length pcap) (.slice aa l.length acap) ps.length l.length from ⟨ps, l, rfl, rfl, hp8, ha8, okp, oka⟩)
        have HQ0 := Lib.hid (And.intro hq0 h0)
        clear hX8 hS8 hG8 hp8 ha8
        go_wp2
        go_end0
        exact ⟨rfl, (by have hh := HF2.out; first | exact hh | (rw [HQ0.out.1, HQ0.out.2] at hh; exact hh) | (rw [HQ0.out.2] at hh; exact hh)), HF.out.1, HF.out.2.1, HF.out.2.2⟩
      · have h1' : (0 : Int) < (ps.length : Int) := by omega
        go_wp2_with fail
        have HPOS : PosL ps.length := by unfold PosL; omega
        have hne : ps ≠ [] := fun e => h0 (by rw [e]; rfl)
        obtain ⟨go, cap, cur, hoa, hgo, hgb, _, _⟩ := hp8.blk hne
        injection hoa with hoa1 _ hoa2
        subst hoa1 hoa2
        have HOTY : Hid (∀ k, (Value.slice aa l.length acap).ownBlock = some k → k ≠ go) := Lib.hid fun k hk e => by
          subst e
          obtain ⟨_, c1, h1⟩ := (ownR_k TAl B).blk ha8 hk
          rw [hgb] at h1
          injection h1 with h1
          injection h1 with _ e2 _
          exact absurd e2 (by decide)
        clear hgb
        have ls8 := hS8.lt
        have HX8 := Lib.hid hX8
        have HXC : Hid (∀ W, (XK wb Kp W ∧ OwnR TAl W B (.slice aa l.length acap) l) → ∀ W', Below W.heap.size W W' → (XK wb Kp W' ∧ OwnR TAl W' B (.slice aa l.length acap) l)) := Lib.hid fun W hW W' hb => ⟨hW.1.below HKP.out hb, hW.2.below hb⟩
        have HXG : Hid (∀ W, (XK wb Kp W ∧ OwnR TAl W B (.slice aa l.length acap) l) → ∀ W', W.grownBy W' (some s) → (XK wb Kp W' ∧ OwnR TAl W' B (.slice aa l.length acap) l)) := Lib.hid fun W hW W' hb => ⟨hW.1.gr HKP.out hb, hW.2.grown hb (by omega)⟩
        have HK : OwnK (fun W => (∃ l' : List Prt, OwnR TPt W B (.slice (some ⟨go, 0, none⟩) ps.length pcap) l' ∧ l'.length = ps.length ∧ ∀ x ∈ l', PrtS x) ∧ (XK wb Kp W ∧ OwnR TAl W B (.slice aa l.length acap) l)) s := ⟨fun W W' h hb => ⟨(by obtain ⟨⟨l', h1, h2⟩, _⟩ := h; exact ⟨l', h1.below hb, h2⟩), HXC.out W h.2 W' hb⟩, fun W W' h hg => ⟨(by obtain ⟨⟨l', h1, h2⟩, _⟩ := h; exact ⟨l', h1.grown hg (by omega), h2⟩), HXG.out W h.2 W' hg⟩⟩
        refine wp_region_inv (by kernel_rfl) [63, 64, 65, 66, 67, 68, 69, 70, 71, 72, 73, 74, 5] (RB (fun W => (∃ l' : List Prt, OwnR TPt W B (.slice (some ⟨go, 0, none⟩) ps.length pcap) l' ∧ l'.length = ps.length ∧ ∀ x ∈ l', PrtS x) ∧ (XK wb Kp W ∧ OwnR TAl W B (.slice aa l.length acap) l)) w0 s (w8.heap.size) (c + 2 + 300)) (RR (w8.heap.size)) (fun i => [VE (.pointer (some ⟨C, 0, none⟩)), VE (.pointer (some ⟨C, 0, none⟩)), VE (.pointer (some ⟨C, 0, none⟩)), VE (.slice (some ⟨go, 0, none⟩) ps.length pcap), VE (.pointer (some ⟨s, 0, none⟩)), VE (.pointer (some ⟨C, 0, none⟩)), VE (.pointer (some ⟨C, 0, none⟩)), VE (.pointer (some ⟨C, 0, none⟩)), VE (.slice (some ⟨go, 0, none⟩) ps.length pcap), VE (.int .i64 ps.length), VJq ps.length, VPq go ps.length 4, VPq go ps.length 4].getD i VT) (by kernel_rfl) (by kernel_rfl) (fun u u' W hu h => h.mono hu) ?_ ?_ ?_ ?_ ?_
        · exact ⟨(hS8.drew).mono (by show _ ≤ (c + 2 + 300) - 10 * ((13 : Nat) : Int); omega), ⟨⟨ps, hp8, rfl, okp⟩, ⟨hX8, ha8⟩⟩, Nat.le_refl _, ⟨hG8.os, hG8.tape, hG8.output, hG8.size, hG8.block⟩⟩
        · intro u W W' i v hB hR hV
          exact match i, hV with
            | 0, h => h
            | 1, h => h
            | 2, h => h
            | 3, h => h
            | 4, h => h
            | 5, h => h
            | 6, h => h
            | 7, h => h
            | 8, h => h
            | 9, h => h
            | 10, h => h
            | 11, h => h
            | 12, h => h
            | (_ + 13), _ => trivial
        · intro i o v W ho hd
          match i, ho with
            | 0, ho => (obtain rfl := Option.some.inj ho; cases hd)
            | 1, ho => (obtain rfl := Option.some.inj ho; cases hd)
            | 2, ho => (obtain rfl := Option.some.inj ho; cases hd)
            | 3, ho => (obtain rfl := Option.some.inj ho; cases hd)
            | 4, ho => (obtain rfl := Option.some.inj ho; cases hd)
            | 5, ho => (obtain rfl := Option.some.inj ho; cases hd)
            | 6, ho => (obtain rfl := Option.some.inj ho; cases hd)
            | 7, ho => (obtain rfl := Option.some.inj ho; cases hd)
            | 8, ho => (obtain rfl := Option.some.inj ho; cases hd)
            | 9, ho => (obtain rfl := Option.some.inj ho; cases hd)
            | 10, ho => (obtain rfl := Option.some.inj ho; cases hd)
            | 11, ho => (obtain rfl := Option.some.inj ho; cases hd)
            | 12, ho => (obtain rfl := Option.some.inj ho; cases hd)
            | (_ + 13), _ => trivial
        · intro i o u f W ho hi hB hdep
          have hi' : i = 0 ∨ i = 1 ∨ i = 2 ∨ i = 3 ∨ i = 4 ∨ i = 5 ∨ i = 6 ∨ i = 7 ∨ i = 8 ∨ i = 9 ∨ i = 10 ∨ i = 11 ∨ i = 12 := by
            have : i < 13 := hi
            omega
          rcases hi' with rfl | rfl | rfl | rfl | rfl | rfl | rfl | rfl | rfl | rfl | rfl | rfl | rfl
          · refine iv_val ho (by obtain rfl := Option.some.inj ho; rfl) (.pointer (some ⟨C, 0, none⟩)) W ?_ (hB.below HK (Below.refl _ _)) (RR.refl _ _) rfl
            · intro q hq
              obtain rfl := Option.some.inj ho
              have e1 := hq.tmp 1
              simp at e1
              simp [execOp, e1, go_sem]
          · have d63 : f 63 = .pointer (some ⟨C, 0, none⟩) := hdep ⟨0, .data⟩ (by obtain rfl := Option.some.inj ho; simp) rfl
            refine iv_val ho (by obtain rfl := Option.some.inj ho; rfl) (.pointer (some ⟨C, 0, none⟩)) W ?_ (hB.below HK (Below.refl _ _)) (RR.refl _ _) rfl
            · intro q hq
              obtain rfl := Option.some.inj ho
              have e63 := hq.tmp 63
              simp at e63
              simp [execOp, e63, d63, go_sem]
          · have d64 : f 64 = .pointer (some ⟨C, 0, none⟩) := hdep ⟨1, .data⟩ (by obtain rfl := Option.some.inj ho; simp) rfl
            refine iv_val ho (by obtain rfl := Option.some.inj ho; rfl) (.pointer (some ⟨C, 0, none⟩)) W ?_ (hB.below HK (Below.refl _ _)) (RR.refl _ _) rfl
            · intro q hq
              obtain rfl := Option.some.inj ho
              have e64 := hq.tmp 64
              simp at e64
              simp [execOp, e64, d64, go_sem]
          · have d65 : f 65 = .pointer (some ⟨C, 0, none⟩) := hdep ⟨2, .data⟩ (by obtain rfl := Option.some.inj ho; simp) rfl
            have y0 := (HCC.out W hB.own.2.1).1
            refine iv_val ho (by obtain rfl := Option.some.inj ho; rfl) (.slice (some ⟨go, 0, none⟩) ps.length pcap) W ?_ (hB.below HK (Below.refl _ _)) (RR.refl _ _) rfl
            · intro q hq
              obtain rfl := Option.some.inj ho
              have e65 := hq.tmp 65
              simp at e65
              simp [execOp, e65, d65, go_sem, y0]
          · refine iv_val ho (by obtain rfl := Option.some.inj ho; rfl) (.pointer (some ⟨s, 0, none⟩)) W ?_ (hB.below HK (Below.refl _ _)) (RR.refl _ _) rfl
            · intro q hq
              obtain rfl := Option.some.inj ho
              have e0 := hq.tmp 0
              simp at e0
              simp [execOp, e0, go_sem]
          · refine iv_val ho (by obtain rfl := Option.some.inj ho; rfl) (.pointer (some ⟨C, 0, none⟩)) W ?_ (hB.below HK (Below.refl _ _)) (RR.refl _ _) rfl
            · intro q hq
              obtain rfl := Option.some.inj ho
              have e1 := hq.tmp 1
              simp at e1
              simp [execOp, e1, go_sem]
          · have d68 : f 68 = .pointer (some ⟨C, 0, none⟩) := hdep ⟨5, .data⟩ (by obtain rfl := Option.some.inj ho; simp) rfl
            refine iv_val ho (by obtain rfl := Option.some.inj ho; rfl) (.pointer (some ⟨C, 0, none⟩)) W ?_ (hB.below HK (Below.refl _ _)) (RR.refl _ _) rfl
            · intro q hq
              obtain rfl := Option.some.inj ho
              have e68 := hq.tmp 68
              simp at e68
              simp [execOp, e68, d68, go_sem]
          · have d69 : f 69 = .pointer (some ⟨C, 0, none⟩) := hdep ⟨6, .data⟩ (by obtain rfl := Option.some.inj ho; simp) rfl
            refine iv_val ho (by obtain rfl := Option.some.inj ho; rfl) (.pointer (some ⟨C, 0, none⟩)) W ?_ (hB.below HK (Below.refl _ _)) (RR.refl _ _) rfl
            · intro q hq
              obtain rfl := Option.some.inj ho
              have e69 := hq.tmp 69
              simp at e69
              simp [execOp, e69, d69, go_sem]
          · have d70 : f 70 = .pointer (some ⟨C, 0, none⟩) := hdep ⟨7, .data⟩ (by obtain rfl := Option.some.inj ho; simp) rfl
            have y0 := (HCC.out W hB.own.2.1).1
            refine iv_val ho (by obtain rfl := Option.some.inj ho; rfl) (.slice (some ⟨go, 0, none⟩) ps.length pcap) W ?_ (hB.below HK (Below.refl _ _)) (RR.refl _ _) rfl
            · intro q hq
              obtain rfl := Option.some.inj ho
              have e70 := hq.tmp 70
              simp at e70
              simp [execOp, e70, d70, go_sem, y0]
          · have d71 : f 71 = .slice (some ⟨go, 0, none⟩) ps.length pcap := hdep ⟨8, .data⟩ (by obtain rfl := Option.some.inj ho; simp) rfl
            refine iv_val ho (by obtain rfl := Option.some.inj ho; rfl) (.int .i64 ps.length) W ?_ (hB.below HK (Below.refl _ _)) (RR.refl _ _) rfl
            · intro q hq
              obtain rfl := Option.some.inj ho
              have e71 := hq.tmp 71
              simp at e71
              simp [execOp, e71, d71, go_sem, resolve, invoke, builtin]
          · have d67 : f 67 = .pointer (some ⟨s, 0, none⟩) := hdep ⟨4, .data⟩ (by obtain rfl := Option.some.inj ho; simp) rfl
            have d72 : f 72 = .int .i64 ps.length := hdep ⟨9, .data⟩ (by obtain rfl := Option.some.inj ho; simp) rfl
            refine iv_call ho (by obtain rfl := Option.some.inj ho; rfl) 23 #[.tmp 67, .tmp 72] _ (by obtain rfl := Option.some.inj ho; rfl) (enters_of Tryz.func23 (by kernel_rfl) rfl) #[.pointer (some ⟨s, 0, none⟩), .int .i64 ps.length] (by intro q hq; have e67 := hq.tmp 67; simp at e67; have e72 := hq.tmp 72; simp at e72; simp [e67, e72, d67, d72]) _ (Next_any s _ ps.length W hB.str (by omega) (by omega)) ?_
            rintro e W' ⟨r, rfl, ⟨hr0, hr1, _⟩, hs', hg'⟩
            exact ⟨_, rfl, hB.call HK hs' (by omega) hg', RR.of_gr hg' (by omega), ⟨r.toNat, by have hps := HPOS; unfold PosL at hps; have := hr1 (by omega); omega, by rw [Int.toNat_of_nonneg hr0]⟩⟩
          · have d66 : f 66 = .slice (some ⟨go, 0, none⟩) ps.length pcap := hdep ⟨3, .data⟩ (by obtain rfl := Option.some.inj ho; simp) rfl
            obtain ⟨jj, hjj, d73⟩ : VJq ps.length (f 73) W := hdep ⟨10, .data⟩ (by obtain rfl := Option.some.inj ho; simp) rfl
            have i1 : (0 : Int) ≤ (jj : Int) := by omega
            have i2 : (jj : Int) < (ps.length : Int) := by omega
            refine iv_val ho (by obtain rfl := Option.some.inj ho; rfl) (.pointer (some ⟨go, jj * 4, none⟩)) W ?_ (hB.below HK (Below.refl _ _)) (RR.refl _ _) ⟨jj, hjj, rfl⟩
            · intro q hq
              obtain rfl := Option.some.inj ho
              have e66 := hq.tmp 66
              have e73 := hq.tmp 73
              simp at e66 e73
              simp [execOp, e66, e73, d66, d73, go_sem, i1, i2]
          · obtain ⟨jj, hjj, d74⟩ : VPq go ps.length 4 (f 74) W := hdep ⟨11, .data⟩ (by obtain rfl := Option.some.inj ho; simp) rfl
            refine iv_val ho (by obtain rfl := Option.some.inj ho; rfl) (.pointer (some ⟨go, jj * 4, none⟩)) W ?_ (hB.below HK (Below.refl _ _)) (RR.refl _ _) ⟨jj, hjj, rfl⟩
            · intro q hq
              obtain rfl := Option.some.inj ho
              have e74 := hq.tmp 74
              simp at e74
              simp [execOp, e74, d74, go_sem]
        intro f9 w9 hB9 hV9
        obtain ⟨jj, hjj, hd4⟩ : VPq go ps.length 4 (f9 5) w9 := hV9 12 (by decide)
        unfold putsA
        simp only [List.mapIdx_toArray, List.mapIdx_cons, List.mapIdx_nil, List.contains_cons]
        simp
        rw [hd4]
        obtain ⟨hS9, ⟨⟨l9, hO9, hn9, hok9⟩, hX9⟩, hz9, hG9⟩ := hB9
        obtain ⟨j, hj⟩ : ∃ j, j = jj := ⟨_, rfl⟩
        rw [← hj] at hjj ⊢
        have hjn : j < ps.length := hjj
        have HXS : Hid (∀ W o v, (XK wb Kp W ∧ OwnR TAl W B (.slice aa l.length acap) l) → (XK wb Kp (W.setCell ⟨go, o, none⟩ v) ∧ OwnR TAl (W.setCell ⟨go, o, none⟩ v) B (.slice aa l.length acap) l)) := Lib.hid fun W o v hW => ⟨hW.1.set HKP.out hgo o v, (ownR_k TAl B).keep hW.2 fun k hk => Below.heap_setCell _ ⟨go, o, none⟩ _ k (HOTY.out k hk)⟩
        have hS9' := hS9.mono (d := c + 2 + 300) (by omega)
        have ls9 := hS9'.lt
        have lgo9 : go < w9.heap.size := (World.ownsRow.lt hO9 go rfl).2
        clear hV9 hd4 hj hjj HX8 hX8 hS8 hp8 ha8 hS9 hG8
        go_wp2
        refine wp_region_inv (by kernel_rfl) [75, 76, 77, 78, 79, 80, 81, 82, 83, 84, 85, 86, 87, 88, 89, 90, 91, 92, 93, 94, 95, 96, 97, 98, 99, 100, 101, 102, 103, 104] (RB (fun W => (∃ l' : List Prt, OwnR TPt W B (.slice (some ⟨go, 0, none⟩) ps.length pcap) l' ∧ l'.length = ps.length ∧ ∀ x ∈ l', PrtS x) ∧ (XK wb Kp W ∧ OwnR TAl W B (.slice aa l.length acap) l)) w0 s (w9.heap.size) (c + 2 + 700)) (RR (w9.heap.size)) (fun i => [VE (.pointer (some ⟨go, j * 4, none⟩)), VE (.pointer (some ⟨go, j * 4, none⟩)), VE (.pointer (some ⟨go, j * 4, none⟩)), VE (.pointer (some ⟨s, 0, none⟩)), VE (.pointer (some ⟨go, j * 4, none⟩)), VE (.pointer (some ⟨go, j * 4, none⟩)), VE (.pointer (some ⟨go, j * 4, none⟩)), VS 5, VLS (w9.heap.size) 5 3, VS 5, VE (.pointer (some ⟨s, 0, none⟩)), VE (.pointer (some ⟨go, j * 4, none⟩)), VE (.pointer (some ⟨go, j * 4, none⟩)), VE (.pointer (some ⟨go, j * 4 + 2, none⟩)), VI (-1099511627777) 1099511627777, VLI (w9.heap.size) (-1099511627777) 1099511627777 3, VI (-1099511627777) 1099511627777, VE (.pointer (some ⟨s, 0, none⟩)), VE (.pointer (some ⟨go, j * 4, none⟩)), VE (.pointer (some ⟨go, j * 4, none⟩)), VE (.pointer (some ⟨go, j * 4 + 3, none⟩)), VI (-1099511627777) 1099511627777, VLI (w9.heap.size) (-1099511627777) 1099511627777 3, VI (-1099511627777) 1099511627777, VE (.pointer (some ⟨go, j * 4, none⟩)), VE (.pointer (some ⟨go, j * 4, none⟩)), VT, VE (.pointer (some ⟨go, j * 4, none⟩)), VE (.pointer (some ⟨go, j * 4 + 2, none⟩)), VT, VE (.pointer (some ⟨go, j * 4, none⟩)), VE (.pointer (some ⟨go, j * 4 + 3, none⟩)), VT].getD i VT) (by kernel_rfl) (by kernel_rfl) (fun u u' W hu h => h.mono hu) ?_ ?_ ?_ ?_ ?_
        · exact ⟨(hS9'.drew).mono (by show _ ≤ (c + 2 + 700) - 10 * ((33 : Nat) : Int); omega), ⟨⟨l9, hO9, hn9, hok9⟩, hX9⟩, Nat.le_refl _, ⟨hG9.os, hG9.tape, hG9.output, hG9.size, hG9.block⟩⟩
        · intro u W W' i v hB hR hV
          exact match i, hV with
            | 0, h => h
            | 1, h => h
            | 2, h => h
            | 3, h => h
            | 4, h => h
            | 5, h => h
            | 6, h => h
            | 7, h => h
            | 8, h => VLS.stab h hR
            | 9, h => h
            | 10, h => h
            | 11, h => h
            | 12, h => h
            | 13, h => h
            | 14, h => h
            | 15, h => VLI.stab h hR
            | 16, h => h
            | 17, h => h
            | 18, h => h
            | 19, h => h
            | 20, h => h
            | 21, h => h
            | 22, h => VLI.stab h hR
            | 23, h => h
            | 24, h => h
            | 25, h => h
            | 26, h => h
            | 27, h => h
            | 28, h => h
            | 29, h => h
            | 30, h => h
            | 31, h => h
            | 32, h => h
            | (_ + 33), _ => trivial
        · intro i o v W ho hd
          match i, ho with
            | 0, ho => (obtain rfl := Option.some.inj ho; cases hd)
            | 1, ho => (obtain rfl := Option.some.inj ho; cases hd)
            | 2, ho => (obtain rfl := Option.some.inj ho; cases hd)
            | 3, ho => (obtain rfl := Option.some.inj ho; cases hd)
            | 4, ho => (obtain rfl := Option.some.inj ho; cases hd)
            | 5, ho => (obtain rfl := Option.some.inj ho; cases hd)
            | 6, ho => (obtain rfl := Option.some.inj ho; cases hd)
            | 7, ho => (obtain rfl := Option.some.inj ho; cases hd)
            | 8, ho => (obtain rfl := Option.some.inj ho; cases hd)
            | 9, ho => (obtain rfl := Option.some.inj ho; cases hd)
            | 10, ho => (obtain rfl := Option.some.inj ho; cases hd)
            | 11, ho => (obtain rfl := Option.some.inj ho; cases hd)
            | 12, ho => (obtain rfl := Option.some.inj ho; cases hd)
            | 13, ho => (obtain rfl := Option.some.inj ho; cases hd)
            | 14, ho => (obtain rfl := Option.some.inj ho; cases hd)
            | 15, ho => (obtain rfl := Option.some.inj ho; cases hd)
            | 16, ho => (obtain rfl := Option.some.inj ho; cases hd)
            | 17, ho => (obtain rfl := Option.some.inj ho; cases hd)
            | 18, ho => (obtain rfl := Option.some.inj ho; cases hd)
            | 19, ho => (obtain rfl := Option.some.inj ho; cases hd)
            | 20, ho => (obtain rfl := Option.some.inj ho; cases hd)
            | 21, ho => (obtain rfl := Option.some.inj ho; cases hd)
            | 22, ho => (obtain rfl := Option.some.inj ho; cases hd)
            | 23, ho => (obtain rfl := Option.some.inj ho; cases hd)
            | 24, ho => (obtain rfl := Option.some.inj ho; cases hd)
            | 25, ho => (obtain rfl := Option.some.inj ho; cases hd)
            | 26, ho => trivial
            | 27, ho => (obtain rfl := Option.some.inj ho; cases hd)
            | 28, ho => (obtain rfl := Option.some.inj ho; cases hd)
            | 29, ho => trivial
            | 30, ho => (obtain rfl := Option.some.inj ho; cases hd)
            | 31, ho => (obtain rfl := Option.some.inj ho; cases hd)
            | 32, ho => trivial
            | (_ + 33), _ => trivial
        · intro i o u f W ho hi hB hdep
          have hi' : i = 0 ∨ i = 1 ∨ i = 2 ∨ i = 3 ∨ i = 4 ∨ i = 5 ∨ i = 6 ∨ i = 7 ∨ i = 8 ∨ i = 9 ∨ i = 10 ∨ i = 11 ∨ i = 12 ∨ i = 13 ∨ i = 14 ∨ i = 15 ∨ i = 16 ∨ i = 17 ∨ i = 18 ∨ i = 19 ∨ i = 20 ∨ i = 21 ∨ i = 22 ∨ i = 23 ∨ i = 24 ∨ i = 25 ∨ i = 26 ∨ i = 27 ∨ i = 28 ∨ i = 29 ∨ i = 30 ∨ i = 31 ∨ i = 32 := by
            have : i < 33 := hi
            omega
          rcases hi' with rfl | rfl | rfl | rfl | rfl | rfl | rfl | rfl | rfl | rfl | rfl | rfl | rfl | rfl | rfl | rfl | rfl | rfl | rfl | rfl | rfl | rfl | rfl | rfl | rfl | rfl | rfl | rfl | rfl | rfl | rfl | rfl | rfl
          · refine iv_val ho (by obtain rfl := Option.some.inj ho; rfl) (.pointer (some ⟨go, j * 4, none⟩)) W ?_ (hB.below HK (Below.refl _ _)) (RR.refl _ _) rfl
            · intro q hq
              obtain rfl := Option.some.inj ho
              have e5 := hq.tmp 5
              simp at e5
              simp [execOp, e5, go_sem]
          · refine iv_val ho (by obtain rfl := Option.some.inj ho; rfl) (.pointer (some ⟨go, j * 4, none⟩)) W ?_ (hB.below HK (Below.refl _ _)) (RR.refl _ _) rfl
            · intro q hq
              obtain rfl := Option.some.inj ho
              have e5 := hq.tmp 5
              simp at e5
              simp [execOp, e5, go_sem]
          · refine iv_val ho (by obtain rfl := Option.some.inj ho; rfl) (.pointer (some ⟨go, j * 4, none⟩)) W ?_ (hB.below HK (Below.refl _ _)) (RR.refl _ _) rfl
            · intro q hq
              obtain rfl := Option.some.inj ho
              have e5 := hq.tmp 5
              simp at e5
              simp [execOp, e5, go_sem]
          · refine iv_val ho (by obtain rfl := Option.some.inj ho; rfl) (.pointer (some ⟨s, 0, none⟩)) W ?_ (hB.below HK (Below.refl _ _)) (RR.refl _ _) rfl
            · intro q hq
              obtain rfl := Option.some.inj ho
              have e0 := hq.tmp 0
              simp at e0
              simp [execOp, e0, go_sem]
          · refine iv_val ho (by obtain rfl := Option.some.inj ho; rfl) (.pointer (some ⟨go, j * 4, none⟩)) W ?_ (hB.below HK (Below.refl _ _)) (RR.refl _ _) rfl
            · intro q hq
              obtain rfl := Option.some.inj ho
              have e5 := hq.tmp 5
              simp at e5
              simp [execOp, e5, go_sem]
          · have d79 : f 79 = .pointer (some ⟨go, j * 4, none⟩) := hdep ⟨4, .data⟩ (by obtain rfl := Option.some.inj ho; simp) rfl
            refine iv_val ho (by obtain rfl := Option.some.inj ho; rfl) (.pointer (some ⟨go, j * 4, none⟩)) W ?_ (hB.below HK (Below.refl _ _)) (RR.refl _ _) rfl
            · intro q hq
              obtain rfl := Option.some.inj ho
              have e79 := hq.tmp 79
              simp at e79
              simp [execOp, e79, d79, go_sem]
          · have d80 : f 80 = .pointer (some ⟨go, j * 4, none⟩) := hdep ⟨5, .data⟩ (by obtain rfl := Option.some.inj ho; simp) rfl
            refine iv_val ho (by obtain rfl := Option.some.inj ho; rfl) (.pointer (some ⟨go, j * 4, none⟩)) W ?_ (hB.below HK (Below.refl _ _)) (RR.refl _ _) rfl
            · intro q hq
              obtain rfl := Option.some.inj ho
              have e80 := hq.tmp 80
              simp at e80
              simp [execOp, e80, d80, go_sem]
          · have d81 : f 81 = .pointer (some ⟨go, j * 4, none⟩) := hdep ⟨6, .data⟩ (by obtain rfl := Option.some.inj ho; simp) rfl
            obtain ⟨⟨l', hO', hn', hOk'⟩, hx'⟩ := hB.own
            obtain ⟨x0, hx0⟩ : ∃ x, l'[j]? = some x := ⟨_, List.getElem?_eq_getElem (by omega)⟩
            have hok0 := hOk' _ (List.mem_of_getElem? hx0)
            have y0 : W.cell? ⟨go, j * 4, none⟩ = some (.string x0.1) := (OwnR.cellf TPt.ok hO' hn'.symm hx0 (fo := 0) rfl).1
            refine iv_val ho (by obtain rfl := Option.some.inj ho; rfl) (.string x0.1) W ?_ (hB.below HK (Below.refl _ _)) (RR.refl _ _) ⟨_, rfl, hok0.1⟩
            · intro q hq
              obtain rfl := Option.some.inj ho
              have e81 := hq.tmp 81
              simp at e81
              simp [execOp, e81, d81, go_sem, y0]
          · obtain ⟨x82, d82, p82⟩ : VS 5 (f 82) W := hdep ⟨7, .data⟩ (by obtain rfl := Option.some.inj ho; simp) rfl
            refine iv_val ho (by obtain rfl := Option.some.inj ho; rfl) (.slice (some ⟨W.heap.size, 0, none⟩) 3 3) (W.alloc (.cells #[.string x82, .string (⟨#[]⟩ : ByteArray), .string (⟨#[98]⟩ : ByteArray)] 9)) ?_ (hB.below HK (Bl.alloc (Below.refl _ _) _)) (RR.of_below (Bl.alloc (Below.refl _ _) _)) ⟨[x82, (⟨#[]⟩ : ByteArray), (⟨#[98]⟩ : ByteArray)], ⟨_, rfl⟩, rfl, RecR.of_blk (T := TS) (blk_new _ _) rfl rfl (by simp) (by omega) hB.size, ?_⟩
            · intro q hq
              obtain rfl := Option.some.inj ho
              have e82 := hq.tmp 82
              simp at e82
              simp [execOp, hq.const, e82, d82, go_sem]
            · intro x hx
              simp only [List.mem_cons, List.not_mem_nil, or_false] at hx
              rcases hx with rfl | rfl | rfl
              all_goals (first | assumption | (show _ ≤ 5; decide))
          · have d78 : f 78 = .pointer (some ⟨s, 0, none⟩) := hdep ⟨3, .data⟩ (by obtain rfl := Option.some.inj ho; simp) rfl
            obtain ⟨li, ⟨bi, d83⟩, hli, hri, hbi⟩ : VLS (w9.heap.size) 5 3 (f 83) W := hdep ⟨8, .data⟩ (by obtain rfl := Option.some.inj ho; simp) rfl
            refine iv_call ho (by obtain rfl := Option.some.inj ho; rfl) 34 #[.tmp 78, .tmp 83] _ (by obtain rfl := Option.some.inj ho; rfl) (enters_of Tryz.func34 (by kernel_rfl) rfl) #[.pointer (some ⟨s, 0, none⟩), f 83] (by intro q hq; have e78 := hq.tmp 78; simp at e78; have e83 := hq.tmp 83; simp at e83; simp [e78, e83, d78]) _ (Some_any s _ li (f 83) W hB.str (by omega) (Rd.mono hri (by omega)) (by omega) (by omega)) ?_
            rintro e W' ⟨r, rfl, hr, hs', hg'⟩
            exact ⟨_, rfl, hB.call HK hs' (by omega) hg', RR.of_gr hg' (by omega), ⟨r, rfl, hbi r hr⟩⟩
          · refine iv_val ho (by obtain rfl := Option.some.inj ho; rfl) (.pointer (some ⟨s, 0, none⟩)) W ?_ (hB.below HK (Below.refl _ _)) (RR.refl _ _) rfl
            · intro q hq
              obtain rfl := Option.some.inj ho
              have e0 := hq.tmp 0
              simp at e0
              simp [execOp, e0, go_sem]
          · refine iv_val ho (by obtain rfl := Option.some.inj ho; rfl) (.pointer (some ⟨go, j * 4, none⟩)) W ?_ (hB.below HK (Below.refl _ _)) (RR.refl _ _) rfl
            · intro q hq
              obtain rfl := Option.some.inj ho
              have e5 := hq.tmp 5
              simp at e5
              simp [execOp, e5, go_sem]
          · have d86 : f 86 = .pointer (some ⟨go, j * 4, none⟩) := hdep ⟨11, .data⟩ (by obtain rfl := Option.some.inj ho; simp) rfl
            refine iv_val ho (by obtain rfl := Option.some.inj ho; rfl) (.pointer (some ⟨go, j * 4, none⟩)) W ?_ (hB.below HK (Below.refl _ _)) (RR.refl _ _) rfl
            · intro q hq
              obtain rfl := Option.some.inj ho
              have e86 := hq.tmp 86
              simp at e86
              simp [execOp, e86, d86, go_sem]
          · have d87 : f 87 = .pointer (some ⟨go, j * 4, none⟩) := hdep ⟨12, .data⟩ (by obtain rfl := Option.some.inj ho; simp) rfl
            refine iv_val ho (by obtain rfl := Option.some.inj ho; rfl) (.pointer (some ⟨go, j * 4 + 2, none⟩)) W ?_ (hB.below HK (Below.refl _ _)) (RR.refl _ _) rfl
            · intro q hq
              obtain rfl := Option.some.inj ho
              have e87 := hq.tmp 87
              simp at e87
              simp [execOp, e87, d87, go_sem]
          · have d88 : f 88 = .pointer (some ⟨go, j * 4 + 2, none⟩) := hdep ⟨13, .data⟩ (by obtain rfl := Option.some.inj ho; simp) rfl
            obtain ⟨⟨l', hO', hn', hOk'⟩, hx'⟩ := hB.own
            obtain ⟨x0, hx0⟩ : ∃ x, l'[j]? = some x := ⟨_, List.getElem?_eq_getElem (by omega)⟩
            have hok0 := hOk' _ (List.mem_of_getElem? hx0)
            have y0 : W.cell? ⟨go, j * 4 + 2, none⟩ = some (.int .i64 x0.2.2.1) := (OwnR.cellf TPt.ok hO' hn'.symm hx0 (fo := 2) rfl).1
            refine iv_val ho (by obtain rfl := Option.some.inj ho; rfl) (.int .i64 x0.2.2.1) W ?_ (hB.below HK (Below.refl _ _)) (RR.refl _ _) ⟨_, rfl, hok0.2.2.1, hok0.2.2.2.1⟩
            · intro q hq
              obtain rfl := Option.some.inj ho
              have e88 := hq.tmp 88
              simp at e88
              simp [execOp, e88, d88, go_sem, y0]
          · obtain ⟨x89, d89, p89, r89⟩ : VI (-1099511627777) 1099511627777 (f 89) W := hdep ⟨14, .data⟩ (by obtain rfl := Option.some.inj ho; simp) rfl
            refine iv_val ho (by obtain rfl := Option.some.inj ho; rfl) (.slice (some ⟨W.heap.size, 0, none⟩) 3 3) (W.alloc (.cells #[.int .i64 x89, .int .i64 (0 : Int), .int .i64 (7 : Int)] 3)) ?_ (hB.below HK (Bl.alloc (Below.refl _ _) _)) (RR.of_below (Bl.alloc (Below.refl _ _) _)) ⟨[x89, (0 : Int), (7 : Int)], ⟨_, rfl⟩, rfl, Ints.of_blk (blk_new _ _) rfl rfl (by simp) (by omega) hB.size, ?_⟩
            · intro q hq
              obtain rfl := Option.some.inj ho
              have e89 := hq.tmp 89
              simp at e89
              simp [execOp, hq.const, e89, d89, go_sem]
            · intro x hx
              simp only [List.mem_cons, List.not_mem_nil, or_false] at hx
              rcases hx with rfl | rfl | rfl
              all_goals omega
          · have d85 : f 85 = .pointer (some ⟨s, 0, none⟩) := hdep ⟨10, .data⟩ (by obtain rfl := Option.some.inj ho; simp) rfl
            obtain ⟨li, ⟨bi, d90⟩, hli, hri, hbi⟩ : VLI (w9.heap.size) (-1099511627777) 1099511627777 3 (f 90) W := hdep ⟨15, .data⟩ (by obtain rfl := Option.some.inj ho; simp) rfl
            refine iv_call ho (by obtain rfl := Option.some.inj ho; rfl) 35 #[.tmp 85, .tmp 90] _ (by obtain rfl := Option.some.inj ho; rfl) (enters_of Tryz.func35 (by kernel_rfl) rfl) #[.pointer (some ⟨s, 0, none⟩), f 90] (by intro q hq; have e85 := hq.tmp 85; simp at e85; have e90 := hq.tmp 90; simp at e90; simp [e85, e90, d85]) _ (Pick_any s _ li (f 90) W hB.str (by omega) (Rd.mono hri (by omega)) (by omega) (by omega)) ?_
            rintro e W' ⟨r, rfl, hr, hs', hg'⟩
            exact ⟨_, rfl, hB.call HK hs' (by omega) hg', RR.of_gr hg' (by omega), ⟨r, rfl, hbi r hr⟩⟩
          · refine iv_val ho (by obtain rfl := Option.some.inj ho; rfl) (.pointer (some ⟨s, 0, none⟩)) W ?_ (hB.below HK (Below.refl _ _)) (RR.refl _ _) rfl
            · intro q hq
              obtain rfl := Option.some.inj ho
              have e0 := hq.tmp 0
              simp at e0
              simp [execOp, e0, go_sem]
          · refine iv_val ho (by obtain rfl := Option.some.inj ho; rfl) (.pointer (some ⟨go, j * 4, none⟩)) W ?_ (hB.below HK (Below.refl _ _)) (RR.refl _ _) rfl
            · intro q hq
              obtain rfl := Option.some.inj ho
              have e5 := hq.tmp 5
              simp at e5
              simp [execOp, e5, go_sem]
          · have d93 : f 93 = .pointer (some ⟨go, j * 4, none⟩) := hdep ⟨18, .data⟩ (by obtain rfl := Option.some.inj ho; simp) rfl
            refine iv_val ho (by obtain rfl := Option.some.inj ho; rfl) (.pointer (some ⟨go, j * 4, none⟩)) W ?_ (hB.below HK (Below.refl _ _)) (RR.refl _ _) rfl
            · intro q hq
              obtain rfl := Option.some.inj ho
              have e93 := hq.tmp 93
              simp at e93
              simp [execOp, e93, d93, go_sem]
          · have d94 : f 94 = .pointer (some ⟨go, j * 4, none⟩) := hdep ⟨19, .data⟩ (by obtain rfl := Option.some.inj ho; simp) rfl
            refine iv_val ho (by obtain rfl := Option.some.inj ho; rfl) (.pointer (some ⟨go, j * 4 + 3, none⟩)) W ?_ (hB.below HK (Below.refl _ _)) (RR.refl _ _) rfl
            · intro q hq
              obtain rfl := Option.some.inj ho
              have e94 := hq.tmp 94
              simp at e94
              simp [execOp, e94, d94, go_sem]
          · have d95 : f 95 = .pointer (some ⟨go, j * 4 + 3, none⟩) := hdep ⟨20, .data⟩ (by obtain rfl := Option.some.inj ho; simp) rfl
            obtain ⟨⟨l', hO', hn', hOk'⟩, hx'⟩ := hB.own
            obtain ⟨x0, hx0⟩ : ∃ x, l'[j]? = some x := ⟨_, List.getElem?_eq_getElem (by omega)⟩
            have hok0 := hOk' _ (List.mem_of_getElem? hx0)
            have y0 : W.cell? ⟨go, j * 4 + 3, none⟩ = some (.int .i64 x0.2.2.2) := (OwnR.cellf TPt.ok hO' hn'.symm hx0 (fo := 3) rfl).1
            refine iv_val ho (by obtain rfl := Option.some.inj ho; rfl) (.int .i64 x0.2.2.2) W ?_ (hB.below HK (Below.refl _ _)) (RR.refl _ _) ⟨_, rfl, hok0.2.2.2.2.1, hok0.2.2.2.2.2⟩
            · intro q hq
              obtain rfl := Option.some.inj ho
              have e95 := hq.tmp 95
              simp at e95
              simp [execOp, e95, d95, go_sem, y0]
          · obtain ⟨x96, d96, p96, r96⟩ : VI (-1099511627777) 1099511627777 (f 96) W := hdep ⟨21, .data⟩ (by obtain rfl := Option.some.inj ho; simp) rfl
            refine iv_val ho (by obtain rfl := Option.some.inj ho; rfl) (.slice (some ⟨W.heap.size, 0, none⟩) 3 3) (W.alloc (.cells #[.int .i64 x96, .int .i64 (-1 : Int), .int .i64 (720000001 : Int)] 3)) ?_ (hB.below HK (Bl.alloc (Below.refl _ _) _)) (RR.of_below (Bl.alloc (Below.refl _ _) _)) ⟨[x96, (-1 : Int), (720000001 : Int)], ⟨_, rfl⟩, rfl, Ints.of_blk (blk_new _ _) rfl rfl (by simp) (by omega) hB.size, ?_⟩
            · intro q hq
              obtain rfl := Option.some.inj ho
              have e96 := hq.tmp 96
              simp at e96
              simp [execOp, hq.const, e96, d96, go_sem]
            · intro x hx
              simp only [List.mem_cons, List.not_mem_nil, or_false] at hx
              rcases hx with rfl | rfl | rfl
              all_goals omega
          · have d92 : f 92 = .pointer (some ⟨s, 0, none⟩) := hdep ⟨17, .data⟩ (by obtain rfl := Option.some.inj ho; simp) rfl
            obtain ⟨li, ⟨bi, d97⟩, hli, hri, hbi⟩ : VLI (w9.heap.size) (-1099511627777) 1099511627777 3 (f 97) W := hdep ⟨22, .data⟩ (by obtain rfl := Option.some.inj ho; simp) rfl
            refine iv_call ho (by obtain rfl := Option.some.inj ho; rfl) 35 #[.tmp 92, .tmp 97] _ (by obtain rfl := Option.some.inj ho; rfl) (enters_of Tryz.func35 (by kernel_rfl) rfl) #[.pointer (some ⟨s, 0, none⟩), f 97] (by intro q hq; have e92 := hq.tmp 92; simp at e92; have e97 := hq.tmp 97; simp at e97; simp [e92, e97, d92]) _ (Pick_any s _ li (f 97) W hB.str (by omega) (Rd.mono hri (by omega)) (by omega) (by omega)) ?_
            rintro e W' ⟨r, rfl, hr, hs', hg'⟩
            exact ⟨_, rfl, hB.call HK hs' (by omega) hg', RR.of_gr hg' (by omega), ⟨r, rfl, hbi r hr⟩⟩
          · have d75 : f 75 = .pointer (some ⟨go, j * 4, none⟩) := hdep ⟨0, .data⟩ (by obtain rfl := Option.some.inj ho; simp) rfl
            refine iv_val ho (by obtain rfl := Option.some.inj ho; rfl) (.pointer (some ⟨go, j * 4, none⟩)) W ?_ (hB.below HK (Below.refl _ _)) (RR.refl _ _) rfl
            · intro q hq
              obtain rfl := Option.some.inj ho
              have e75 := hq.tmp 75
              simp at e75
              simp [execOp, e75, d75, go_sem]
          · have d99 : f 99 = .pointer (some ⟨go, j * 4, none⟩) := hdep ⟨24, .data⟩ (by obtain rfl := Option.some.inj ho; simp) rfl
            refine iv_val ho (by obtain rfl := Option.some.inj ho; rfl) (.pointer (some ⟨go, j * 4, none⟩)) W ?_ (hB.below HK (Below.refl _ _)) (RR.refl _ _) rfl
            · intro q hq
              obtain rfl := Option.some.inj ho
              have e99 := hq.tmp 99
              simp at e99
              simp [execOp, e99, d99, go_sem]
          · have d100 : f 100 = .pointer (some ⟨go, j * 4, none⟩) := hdep ⟨25, .data⟩ (by obtain rfl := Option.some.inj ho; simp) rfl
            obtain ⟨x84, d84, p84⟩ : VS 5 (f 84) W := hdep ⟨9, .data⟩ (by obtain rfl := Option.some.inj ho; simp) rfl
            obtain ⟨⟨l', hO', hn', hOk'⟩, hx'⟩ := hB.own
            obtain ⟨x0, hx0⟩ : ∃ x, l'[j]? = some x := ⟨_, List.getElem?_eq_getElem (by omega)⟩
            have hok0 := hOk' _ (List.mem_of_getElem? hx0)
            obtain ⟨y0, g0⟩ := OwnR.cellf TPt.ok hO' hn'.symm hx0 (fo := 0) rfl
            replace y0 : W.cell? ⟨go, j * 4, none⟩ = some (.string x0.1) := y0
            replace g0 : W.frozen? ⟨go, j * 4, none⟩ = false := g0
            have hO2 : OwnR TPt (W.setCell ⟨go, j * 4, none⟩ (.string x84)) B (.slice (some ⟨go, 0, none⟩) ps.length pcap) (l'.set j ((x84, x0.2))) := OwnR.setf TPt.ok hO' hn'.symm hx0 (fo := 0) (by decide) rfl
            refine iv_skip ho (by obtain rfl := Option.some.inj ho; rfl) (by obtain rfl := Option.some.inj ho; rfl) (W.setCell ⟨go, j * 4, none⟩ (.string x84)) ?_ (hB.store (by omega) hs ⟨⟨_, hO2, by rw [List.length_set]; exact hn', ?_⟩, HXS.out W _ _ hx'⟩) ⟨by simp, fun i h1 h2 => ?_⟩ trivial
            · intro q hq
              obtain rfl := Option.some.inj ho
              have e84 := hq.tmp 84
              have e100 := hq.tmp 100
              simp at e84 e100
              simp [execOp, e84, e100, d84, d100, go_sem, y0, g0]
            · intro x hx
              rcases List.mem_or_eq_of_mem_set hx with h | rfl
              · exact hOk' x h
              · exact ⟨p84, hok0.2⟩
            · exact Below.heap_setCell _ _ _ _ (by show i ≠ go; omega)
          · have d76 : f 76 = .pointer (some ⟨go, j * 4, none⟩) := hdep ⟨1, .data⟩ (by obtain rfl := Option.some.inj ho; simp) rfl
            refine iv_val ho (by obtain rfl := Option.some.inj ho; rfl) (.pointer (some ⟨go, j * 4, none⟩)) W ?_ (hB.below HK (Below.refl _ _)) (RR.refl _ _) rfl
            · intro q hq
              obtain rfl := Option.some.inj ho
              have e76 := hq.tmp 76
              simp at e76
              simp [execOp, e76, d76, go_sem]
          · have d101 : f 101 = .pointer (some ⟨go, j * 4, none⟩) := hdep ⟨27, .data⟩ (by obtain rfl := Option.some.inj ho; simp) rfl
            refine iv_val ho (by obtain rfl := Option.some.inj ho; rfl) (.pointer (some ⟨go, j * 4 + 2, none⟩)) W ?_ (hB.below HK (Below.refl _ _)) (RR.refl _ _) rfl
            · intro q hq
              obtain rfl := Option.some.inj ho
              have e101 := hq.tmp 101
              simp at e101
              simp [execOp, e101, d101, go_sem]
          · have d102 : f 102 = .pointer (some ⟨go, j * 4 + 2, none⟩) := hdep ⟨28, .data⟩ (by obtain rfl := Option.some.inj ho; simp) rfl
            obtain ⟨x91, d91, p91, r91⟩ : VI (-1099511627777) 1099511627777 (f 91) W := hdep ⟨16, .data⟩ (by obtain rfl := Option.some.inj ho; simp) rfl
            obtain ⟨⟨l', hO', hn', hOk'⟩, hx'⟩ := hB.own
            obtain ⟨x0, hx0⟩ : ∃ x, l'[j]? = some x := ⟨_, List.getElem?_eq_getElem (by omega)⟩
            have hok0 := hOk' _ (List.mem_of_getElem? hx0)
            obtain ⟨y0, g0⟩ := OwnR.cellf TPt.ok hO' hn'.symm hx0 (fo := 2) rfl
            replace y0 : W.cell? ⟨go, j * 4 + 2, none⟩ = some (.int .i64 x0.2.2.1) := y0
            replace g0 : W.frozen? ⟨go, j * 4 + 2, none⟩ = false := g0
            have hO2 : OwnR TPt (W.setCell ⟨go, j * 4 + 2, none⟩ (.int .i64 x91)) B (.slice (some ⟨go, 0, none⟩) ps.length pcap) (l'.set j ((x0.1, x0.2.1, x91, x0.2.2.2))) := OwnR.setf TPt.ok hO' hn'.symm hx0 (fo := 2) (by decide) rfl
            refine iv_skip ho (by obtain rfl := Option.some.inj ho; rfl) (by obtain rfl := Option.some.inj ho; rfl) (W.setCell ⟨go, j * 4 + 2, none⟩ (.int .i64 x91)) ?_ (hB.store (by omega) hs ⟨⟨_, hO2, by rw [List.length_set]; exact hn', ?_⟩, HXS.out W _ _ hx'⟩) ⟨by simp, fun i h1 h2 => ?_⟩ trivial
            · intro q hq
              obtain rfl := Option.some.inj ho
              have e91 := hq.tmp 91
              have e102 := hq.tmp 102
              simp at e91 e102
              simp [execOp, e91, e102, d91, d102, go_sem, y0, g0]
            · intro x hx
              rcases List.mem_or_eq_of_mem_set hx with h | rfl
              · exact hOk' x h
              · exact ⟨hok0.1, hok0.2.1, p91, r91, hok0.2.2.2.2⟩
            · exact Below.heap_setCell _ _ _ _ (by show i ≠ go; omega)
          · have d77 : f 77 = .pointer (some ⟨go, j * 4, none⟩) := hdep ⟨2, .data⟩ (by obtain rfl := Option.some.inj ho; simp) rfl
            refine iv_val ho (by obtain rfl := Option.some.inj ho; rfl) (.pointer (some ⟨go, j * 4, none⟩)) W ?_ (hB.below HK (Below.refl _ _)) (RR.refl _ _) rfl
            · intro q hq
              obtain rfl := Option.some.inj ho
              have e77 := hq.tmp 77
              simp at e77
              simp [execOp, e77, d77, go_sem]
          · have d103 : f 103 = .pointer (some ⟨go, j * 4, none⟩) := hdep ⟨30, .data⟩ (by obtain rfl := Option.some.inj ho; simp) rfl
            refine iv_val ho (by obtain rfl := Option.some.inj ho; rfl) (.pointer (some ⟨go, j * 4 + 3, none⟩)) W ?_ (hB.below HK (Below.refl _ _)) (RR.refl _ _) rfl
            · intro q hq
              obtain rfl := Option.some.inj ho
              have e103 := hq.tmp 103
              simp at e103
              simp [execOp, e103, d103, go_sem]
          · have d104 : f 104 = .pointer (some ⟨go, j * 4 + 3, none⟩) := hdep ⟨31, .data⟩ (by obtain rfl := Option.some.inj ho; simp) rfl
            obtain ⟨x98, d98, p98, r98⟩ : VI (-1099511627777) 1099511627777 (f 98) W := hdep ⟨23, .data⟩ (by obtain rfl := Option.some.inj ho; simp) rfl
            obtain ⟨⟨l', hO', hn', hOk'⟩, hx'⟩ := hB.own
            obtain ⟨x0, hx0⟩ : ∃ x, l'[j]? = some x := ⟨_, List.getElem?_eq_getElem (by omega)⟩
            have hok0 := hOk' _ (List.mem_of_getElem? hx0)
            obtain ⟨y0, g0⟩ := OwnR.cellf TPt.ok hO' hn'.symm hx0 (fo := 3) rfl
            replace y0 : W.cell? ⟨go, j * 4 + 3, none⟩ = some (.int .i64 x0.2.2.2) := y0
            replace g0 : W.frozen? ⟨go, j * 4 + 3, none⟩ = false := g0
            have hO2 : OwnR TPt (W.setCell ⟨go, j * 4 + 3, none⟩ (.int .i64 x98)) B (.slice (some ⟨go, 0, none⟩) ps.length pcap) (l'.set j ((x0.1, x0.2.1, x0.2.2.1, x98))) := OwnR.setf TPt.ok hO' hn'.symm hx0 (fo := 3) (by decide) rfl
            refine iv_skip ho (by obtain rfl := Option.some.inj ho; rfl) (by obtain rfl := Option.some.inj ho; rfl) (W.setCell ⟨go, j * 4 + 3, none⟩ (.int .i64 x98)) ?_ (hB.store (by omega) hs ⟨⟨_, hO2, by rw [List.length_set]; exact hn', ?_⟩, HXS.out W _ _ hx'⟩) ⟨by simp, fun i h1 h2 => ?_⟩ trivial
            · intro q hq
              obtain rfl := Option.some.inj ho
              have e98 := hq.tmp 98
              have e104 := hq.tmp 104
              simp at e98 e104
              simp [execOp, e98, e104, d98, d104, go_sem, y0, g0]
            · intro x hx
              rcases List.mem_or_eq_of_mem_set hx with h | rfl
              · exact hOk' x h
              · exact ⟨hok0.1, hok0.2.1, hok0.2.2.1, hok0.2.2.2.1, p98, r98⟩
            · exact Below.heap_setCell _ _ _ _ (by show i ≠ go; omega)
        intro f wz hB' hV
        unfold putsA
        simp only [List.mapIdx_toArray, List.mapIdx_cons, List.mapIdx_nil, List.contains_cons]
        simp
        obtain ⟨hSz, ⟨⟨lz, hOz, hnz, hokz⟩, hXz⟩, _, hGz⟩ := hB'
        have HF := Lib.hid (show CatOk wz B (.slice (some ⟨go, 0, none⟩) ps.length pcap) (.slice aa l.length acap) ps.length l.length ∧ XK wb Kp wz ∧ Str wz s (c + 1000) ∧ w0.grownBy wz (some s) from ⟨⟨lz, l, hnz, rfl, hOz, hXz.2, hokz, oka⟩, hXz.1, hSz.mono (by omega), hGz⟩)
        clear hSz hOz hGz hokz hXz hV HK hO9 hS9' hG9
        go_wp2
        go_end0
        exact ⟨rfl, HF.out.1, HF.out.2.1, HF.out.2.2.1, HF.out.2.2.2⟩
    · go_wp2_with fail
      have HPOS : PosL l.length := by unfold PosL; omega
      have hne : l ≠ [] := fun e => h0 (by rw [e]; rfl)
      obtain ⟨go, cap, cur, hoa, hgo, hgb, _, _⟩ := ha8.blk hne
      injection hoa with hoa1 _ hoa2
      subst hoa1 hoa2
      have HOTY : Hid (∀ k, (Value.slice pa ps.length pcap).ownBlock = some k → k ≠ go) := Lib.hid fun k hk e => by
        subst e
        obtain ⟨_, c1, h1⟩ := (ownR_k TPt B).blk hp8 hk
        rw [hgb] at h1
        injection h1 with h1
        injection h1 with _ e2 _
        exact absurd e2 (by decide)
      clear hgb
      have ls8 := hS8.lt
      have HX8 := Lib.hid hX8
      have HXC : Hid (∀ W, (XK wb Kp W ∧ OwnR TPt W B (.slice pa ps.length pcap) ps) → ∀ W', Below W.heap.size W W' → (XK wb Kp W' ∧ OwnR TPt W' B (.slice pa ps.length pcap) ps)) := Lib.hid fun W hW W' hb => ⟨hW.1.below HKP.out hb, hW.2.below hb⟩
      have HXG : Hid (∀ W, (XK wb Kp W ∧ OwnR TPt W B (.slice pa ps.length pcap) ps) → ∀ W', W.grownBy W' (some s) → (XK wb Kp W' ∧ OwnR TPt W' B (.slice pa ps.length pcap) ps)) := Lib.hid fun W hW W' hb => ⟨hW.1.gr HKP.out hb, hW.2.grown hb (by omega)⟩
      have HK : OwnK (fun W => (∃ l' : List Alt, OwnR TAl W B (.slice (some ⟨go, 0, none⟩) l.length acap) l' ∧ l'.length = l.length ∧ ∀ x ∈ l', AltS x) ∧ (XK wb Kp W ∧ OwnR TPt W B (.slice pa ps.length pcap) ps)) s := ⟨fun W W' h hb => ⟨(by obtain ⟨⟨l', h1, h2⟩, _⟩ := h; exact ⟨l', h1.below hb, h2⟩), HXC.out W h.2 W' hb⟩, fun W W' h hg => ⟨(by obtain ⟨⟨l', h1, h2⟩, _⟩ := h; exact ⟨l', h1.grown hg (by omega), h2⟩), HXG.out W h.2 W' hg⟩⟩
      refine wp_region_inv (by kernel_rfl) [16, 17, 18, 19, 20, 21, 22, 23, 24, 25, 26, 27, 4] (RB (fun W => (∃ l' : List Alt, OwnR TAl W B (.slice (some ⟨go, 0, none⟩) l.length acap) l' ∧ l'.length = l.length ∧ ∀ x ∈ l', AltS x) ∧ (XK wb Kp W ∧ OwnR TPt W B (.slice pa ps.length pcap) ps)) w0 s (w8.heap.size) (c + 2 + 300)) (RR (w8.heap.size)) (fun i => [VE (.pointer (some ⟨C, 0, none⟩)), VE (.pointer (some ⟨C, 0, none⟩)), VE (.pointer (some ⟨C, 1, none⟩)), VE (.slice (some ⟨go, 0, none⟩) l.length acap), VE (.pointer (some ⟨s, 0, none⟩)), VE (.pointer (some ⟨C, 0, none⟩)), VE (.pointer (some ⟨C, 0, none⟩)), VE (.pointer (some ⟨C, 1, none⟩)), VE (.slice (some ⟨go, 0, none⟩) l.length acap), VE (.int .i64 l.length), VJq l.length, VPq go l.length 3, VPq go l.length 3].getD i VT) (by kernel_rfl) (by kernel_rfl) (fun u u' W hu h => h.mono hu) ?_ ?_ ?_ ?_ ?_
      · exact ⟨(hS8.drew).mono (by show _ ≤ (c + 2 + 300) - 10 * ((13 : Nat) : Int); omega), ⟨⟨l, ha8, rfl, oka⟩, ⟨hX8, hp8⟩⟩, Nat.le_refl _, ⟨hG8.os, hG8.tape, hG8.output, hG8.size, hG8.block⟩⟩
      · intro u W W' i v hB hR hV
        exact match i, hV with
          | 0, h => h
          | 1, h => h
          | 2, h => h
          | 3, h => h
          | 4, h => h
          | 5, h => h
          | 6, h => h
          | 7, h => h
          | 8, h => h
          | 9, h => h
          | 10, h => h
          | 11, h => h
          | 12, h => h
          | (_ + 13), _ => trivial
      · intro i o v W ho hd
        match i, ho with
          | 0, ho => (obtain rfl := Option.some.inj ho; cases hd)
          | 1, ho => (obtain rfl := Option.some.inj ho; cases hd)
          | 2, ho => (obtain rfl := Option.some.inj ho; cases hd)
          | 3, ho => (obtain rfl := Option.some.inj ho; cases hd)
          | 4, ho => (obtain rfl := Option.some.inj ho; cases hd)
          | 5, ho => (obtain rfl := Option.some.inj ho; cases hd)
          | 6, ho => (obtain rfl := Option.some.inj ho; cases hd)
          | 7, ho => (obtain rfl := Option.some.inj ho; cases hd)
          | 8, ho => (obtain rfl := Option.some.inj ho; cases hd)
          | 9, ho => (obtain rfl := Option.some.inj ho; cases hd)
          | 10, ho => (obtain rfl := Option.some.inj ho; cases hd)
          | 11, ho => (obtain rfl := Option.some.inj ho; cases hd)
          | 12, ho => (obtain rfl := Option.some.inj ho; cases hd)
          | (_ + 13), _ => trivial
      · intro i o u f W ho hi hB hdep
        have hi' : i = 0 ∨ i = 1 ∨ i = 2 ∨ i = 3 ∨ i = 4 ∨ i = 5 ∨ i = 6 ∨ i = 7 ∨ i = 8 ∨ i = 9 ∨ i = 10 ∨ i = 11 ∨ i = 12 := by
          have : i < 13 := hi
          omega
        rcases hi' with rfl | rfl | rfl | rfl | rfl | rfl | rfl | rfl | rfl | rfl | rfl | rfl | rfl
        · refine iv_val ho (by obtain rfl := Option.some.inj ho; rfl) (.pointer (some ⟨C, 0, none⟩)) W ?_ (hB.below HK (Below.refl _ _)) (RR.refl _ _) rfl
          · intro q hq
            obtain rfl := Option.some.inj ho
            have e1 := hq.tmp 1
            simp at e1
            simp [execOp, e1, go_sem]
        · have d16 : f 16 = .pointer (some ⟨C, 0, none⟩) := hdep ⟨0, .data⟩ (by obtain rfl := Option.some.inj ho; simp) rfl
          refine iv_val ho (by obtain rfl := Option.some.inj ho; rfl) (.pointer (some ⟨C, 0, none⟩)) W ?_ (hB.below HK (Below.refl _ _)) (RR.refl _ _) rfl
          · intro q hq
            obtain rfl := Option.some.inj ho
            have e16 := hq.tmp 16
            simp at e16
            simp [execOp, e16, d16, go_sem]
        · have d17 : f 17 = .pointer (some ⟨C, 0, none⟩) := hdep ⟨1, .data⟩ (by obtain rfl := Option.some.inj ho; simp) rfl
          refine iv_val ho (by obtain rfl := Option.some.inj ho; rfl) (.pointer (some ⟨C, 1, none⟩)) W ?_ (hB.below HK (Below.refl _ _)) (RR.refl _ _) rfl
          · intro q hq
            obtain rfl := Option.some.inj ho
            have e17 := hq.tmp 17
            simp at e17
            simp [execOp, e17, d17, go_sem]
        · have d18 : f 18 = .pointer (some ⟨C, 1, none⟩) := hdep ⟨2, .data⟩ (by obtain rfl := Option.some.inj ho; simp) rfl
          have y0 := (HCC.out W hB.own.2.1).2.1
          refine iv_val ho (by obtain rfl := Option.some.inj ho; rfl) (.slice (some ⟨go, 0, none⟩) l.length acap) W ?_ (hB.below HK (Below.refl _ _)) (RR.refl _ _) rfl
          · intro q hq
            obtain rfl := Option.some.inj ho
            have e18 := hq.tmp 18
            simp at e18
            simp [execOp, e18, d18, go_sem, y0]
        · refine iv_val ho (by obtain rfl := Option.some.inj ho; rfl) (.pointer (some ⟨s, 0, none⟩)) W ?_ (hB.below HK (Below.refl _ _)) (RR.refl _ _) rfl
          · intro q hq
            obtain rfl := Option.some.inj ho
            have e0 := hq.tmp 0
            simp at e0
            simp [execOp, e0, go_sem]
        · refine iv_val ho (by obtain rfl := Option.some.inj ho; rfl) (.pointer (some ⟨C, 0, none⟩)) W ?_ (hB.below HK (Below.refl _ _)) (RR.refl _ _) rfl
          · intro q hq
            obtain rfl := Option.some.inj ho
            have e1 := hq.tmp 1
            simp at e1
            simp [execOp, e1, go_sem]
        · have d21 : f 21 = .pointer (some ⟨C, 0, none⟩) := hdep ⟨5, .data⟩ (by obtain rfl := Option.some.inj ho; simp) rfl
          refine iv_val ho (by obtain rfl := Option.some.inj ho; rfl) (.pointer (some ⟨C, 0, none⟩)) W ?_ (hB.below HK (Below.refl _ _)) (RR.refl _ _) rfl
          · intro q hq
            obtain rfl := Option.some.inj ho
            have e21 := hq.tmp 21
            simp at e21
            simp [execOp, e21, d21, go_sem]
        · have d22 : f 22 = .pointer (some ⟨C, 0, none⟩) := hdep ⟨6, .data⟩ (by obtain rfl := Option.some.inj ho; simp) rfl
          refine iv_val ho (by obtain rfl := Option.some.inj ho; rfl) (.pointer (some ⟨C, 1, none⟩)) W ?_ (hB.below HK (Below.refl _ _)) (RR.refl _ _) rfl
          · intro q hq
            obtain rfl := Option.some.inj ho
            have e22 := hq.tmp 22
            simp at e22
            simp [execOp, e22, d22, go_sem]
        · have d23 : f 23 = .pointer (some ⟨C, 1, none⟩) := hdep ⟨7, .data⟩ (by obtain rfl := Option.some.inj ho; simp) rfl
          have y0 := (HCC.out W hB.own.2.1).2.1
          refine iv_val ho (by obtain rfl := Option.some.inj ho; rfl) (.slice (some ⟨go, 0, none⟩) l.length acap) W ?_ (hB.below HK (Below.refl _ _)) (RR.refl _ _) rfl
          · intro q hq
            obtain rfl := Option.some.inj ho
            have e23 := hq.tmp 23
            simp at e23
            simp [execOp, e23, d23, go_sem, y0]
        · have d24 : f 24 = .slice (some ⟨go, 0, none⟩) l.length acap := hdep ⟨8, .data⟩ (by obtain rfl := Option.some.inj ho; simp) rfl
          refine iv_val ho (by obtain rfl := Option.some.inj ho; rfl) (.int .i64 l.length) W ?_ (hB.below HK (Below.refl _ _)) (RR.refl _ _) rfl
          · intro q hq
            obtain rfl := Option.some.inj ho
            have e24 := hq.tmp 24
            simp at e24
            simp [execOp, e24, d24, go_sem, resolve, invoke, builtin]
        · have d20 : f 20 = .pointer (some ⟨s, 0, none⟩) := hdep ⟨4, .data⟩ (by obtain rfl := Option.some.inj ho; simp) rfl
          have d25 : f 25 = .int .i64 l.length := hdep ⟨9, .data⟩ (by obtain rfl := Option.some.inj ho; simp) rfl
          refine iv_call ho (by obtain rfl := Option.some.inj ho; rfl) 23 #[.tmp 20, .tmp 25] _ (by obtain rfl := Option.some.inj ho; rfl) (enters_of Tryz.func23 (by kernel_rfl) rfl) #[.pointer (some ⟨s, 0, none⟩), .int .i64 l.length] (by intro q hq; have e20 := hq.tmp 20; simp at e20; have e25 := hq.tmp 25; simp at e25; simp [e20, e25, d20, d25]) _ (Next_any s _ l.length W hB.str (by omega) (by omega)) ?_
          rintro e W' ⟨r, rfl, ⟨hr0, hr1, _⟩, hs', hg'⟩
          exact ⟨_, rfl, hB.call HK hs' (by omega) hg', RR.of_gr hg' (by omega), ⟨r.toNat, by have hps := HPOS; unfold PosL at hps; have := hr1 (by omega); omega, by rw [Int.toNat_of_nonneg hr0]⟩⟩
        · have d19 : f 19 = .slice (some ⟨go, 0, none⟩) l.length acap := hdep ⟨3, .data⟩ (by obtain rfl := Option.some.inj ho; simp) rfl
          obtain ⟨jj, hjj, d26⟩ : VJq l.length (f 26) W := hdep ⟨10, .data⟩ (by obtain rfl := Option.some.inj ho; simp) rfl
          have i1 : (0 : Int) ≤ (jj : Int) := by omega
          have i2 : (jj : Int) < (l.length : Int) := by omega
          refine iv_val ho (by obtain rfl := Option.some.inj ho; rfl) (.pointer (some ⟨go, jj * 3, none⟩)) W ?_ (hB.below HK (Below.refl _ _)) (RR.refl _ _) ⟨jj, hjj, rfl⟩
          · intro q hq
            obtain rfl := Option.some.inj ho
            have e19 := hq.tmp 19
            have e26 := hq.tmp 26
            simp at e19 e26
            simp [execOp, e19, e26, d19, d26, go_sem, i1, i2]
        · obtain ⟨jj, hjj, d27⟩ : VPq go l.length 3 (f 27) W := hdep ⟨11, .data⟩ (by obtain rfl := Option.some.inj ho; simp) rfl
          refine iv_val ho (by obtain rfl := Option.some.inj ho; rfl) (.pointer (some ⟨go, jj * 3, none⟩)) W ?_ (hB.below HK (Below.refl _ _)) (RR.refl _ _) ⟨jj, hjj, rfl⟩
          · intro q hq
            obtain rfl := Option.some.inj ho
            have e27 := hq.tmp 27
            simp at e27
            simp [execOp, e27, d27, go_sem]
      intro f9 w9 hB9 hV9
      obtain ⟨jj, hjj, hd4⟩ : VPq go l.length 3 (f9 4) w9 := hV9 12 (by decide)
      unfold putsA
      simp only [List.mapIdx_toArray, List.mapIdx_cons, List.mapIdx_nil, List.contains_cons]
      simp
      rw [hd4]
      obtain ⟨hS9, ⟨⟨l9, hO9, hn9, hok9⟩, hX9⟩, hz9, hG9⟩ := hB9
      obtain ⟨j, hj⟩ : ∃ j, j = jj := ⟨_, rfl⟩
      rw [← hj] at hjj ⊢
      have hjn : j < l.length := hjj
      have HXS : Hid (∀ W o v, (XK wb Kp W ∧ OwnR TPt W B (.slice pa ps.length pcap) ps) → (XK wb Kp (W.setCell ⟨go, o, none⟩ v) ∧ OwnR TPt (W.setCell ⟨go, o, none⟩ v) B (.slice pa ps.length pcap) ps)) := Lib.hid fun W o v hW => ⟨hW.1.set HKP.out hgo o v, (ownR_k TPt B).keep hW.2 fun k hk => Below.heap_setCell _ ⟨go, o, none⟩ _ k (HOTY.out k hk)⟩
      have hS9' := hS9.mono (d := c + 2 + 300) (by omega)
      have ls9 := hS9'.lt
      have lgo9 : go < w9.heap.size := (World.ownsRow.lt hO9 go rfl).2
      clear hV9 hd4 hj hjj HX8 hX8 hS8 hp8 ha8 hS9 hG8
      go_wp2
      refine wp_region_inv (by kernel_rfl) [28, 29, 30, 31, 32, 33, 34, 35, 36, 37, 38, 39, 40, 41, 42, 43, 44, 45, 46, 47, 48, 49, 50, 51, 52, 53, 54, 55, 56] (RB (fun W => (∃ l' : List Alt, OwnR TAl W B (.slice (some ⟨go, 0, none⟩) l.length acap) l' ∧ l'.length = l.length ∧ ∀ x ∈ l', AltS x) ∧ (XK wb Kp W ∧ OwnR TPt W B (.slice pa ps.length pcap) ps)) w0 s (w9.heap.size) (c + 2 + 700)) (RR (w9.heap.size)) (fun i => [VE (.pointer (some ⟨go, j * 3, none⟩)), VE (.pointer (some ⟨go, j * 3, none⟩)), VE (.pointer (some ⟨go, j * 3, none⟩)), VE (.pointer (some ⟨s, 0, none⟩)), VE (.pointer (some ⟨go, j * 3, none⟩)), VE (.pointer (some ⟨go, j * 3, none⟩)), VE (.pointer (some ⟨go, j * 3, none⟩)), VS 5, VE (.pointer (some ⟨go, j * 3, none⟩)), VE (.pointer (some ⟨go, j * 3, none⟩)), VE (.pointer (some ⟨go, j * 3 + 1, none⟩)), VS 5, VLS (w9.heap.size) 5 3, VS 5, VE (.pointer (some ⟨s, 0, none⟩)), VE (.pointer (some ⟨go, j * 3, none⟩)), VE (.pointer (some ⟨go, j * 3, none⟩)), VE (.pointer (some ⟨go, j * 3 + 1, none⟩)), VS 5, VLS (w9.heap.size) 5 3, VS 5, VE (.pointer (some ⟨s, 0, none⟩)), VB, VE (.pointer (some ⟨go, j * 3, none⟩)), VE (.pointer (some ⟨go, j * 3, none⟩)), VT, VE (.pointer (some ⟨go, j * 3, none⟩)), VE (.pointer (some ⟨go, j * 3 + 1, none⟩)), VT, VE (.pointer (some ⟨go, j * 3, none⟩)), VE (.pointer (some ⟨go, j * 3 + 2, none⟩)), VT].getD i VT) (by kernel_rfl) (by kernel_rfl) (fun u u' W hu h => h.mono hu) ?_ ?_ ?_ ?_ ?_
      · exact ⟨(hS9'.drew).mono (by show _ ≤ (c + 2 + 700) - 10 * ((32 : Nat) : Int); omega), ⟨⟨l9, hO9, hn9, hok9⟩, hX9⟩, Nat.le_refl _, ⟨hG9.os, hG9.tape, hG9.output, hG9.size, hG9.block⟩⟩
      · intro u W W' i v hB hR hV
        exact match i, hV with
          | 0, h => h
          | 1, h => h
          | 2, h => h
          | 3, h => h
          | 4, h => h
          | 5, h => h
          | 6, h => h
          | 7, h => h
          | 8, h => h
          | 9, h => h
          | 10, h => h
          | 11, h => h
          | 12, h => VLS.stab h hR
          | 13, h => h
          | 14, h => h
          | 15, h => h
          | 16, h => h
          | 17, h => h
          | 18, h => h
          | 19, h => VLS.stab h hR
          | 20, h => h
          | 21, h => h
          | 22, h => h
          | 23, h => h
          | 24, h => h
          | 25, h => h
          | 26, h => h
          | 27, h => h
          | 28, h => h
          | 29, h => h
          | 30, h => h
          | 31, h => h
          | (_ + 32), _ => trivial
      · intro i o v W ho hd
        match i, ho with
          | 0, ho => (obtain rfl := Option.some.inj ho; cases hd)
          | 1, ho => (obtain rfl := Option.some.inj ho; cases hd)
          | 2, ho => (obtain rfl := Option.some.inj ho; cases hd)
          | 3, ho => (obtain rfl := Option.some.inj ho; cases hd)
          | 4, ho => (obtain rfl := Option.some.inj ho; cases hd)
          | 5, ho => (obtain rfl := Option.some.inj ho; cases hd)
          | 6, ho => (obtain rfl := Option.some.inj ho; cases hd)
          | 7, ho => (obtain rfl := Option.some.inj ho; cases hd)
          | 8, ho => (obtain rfl := Option.some.inj ho; cases hd)
          | 9, ho => (obtain rfl := Option.some.inj ho; cases hd)
          | 10, ho => (obtain rfl := Option.some.inj ho; cases hd)
          | 11, ho => (obtain rfl := Option.some.inj ho; cases hd)
          | 12, ho => (obtain rfl := Option.some.inj ho; cases hd)
          | 13, ho => (obtain rfl := Option.some.inj ho; cases hd)
          | 14, ho => (obtain rfl := Option.some.inj ho; cases hd)
          | 15, ho => (obtain rfl := Option.some.inj ho; cases hd)
          | 16, ho => (obtain rfl := Option.some.inj ho; cases hd)
          | 17, ho => (obtain rfl := Option.some.inj ho; cases hd)
          | 18, ho => (obtain rfl := Option.some.inj ho; cases hd)
          | 19, ho => (obtain rfl := Option.some.inj ho; cases hd)
          | 20, ho => (obtain rfl := Option.some.inj ho; cases hd)
          | 21, ho => (obtain rfl := Option.some.inj ho; cases hd)
          | 22, ho => (obtain rfl := Option.some.inj ho; cases hd)
          | 23, ho => (obtain rfl := Option.some.inj ho; cases hd)
          | 24, ho => (obtain rfl := Option.some.inj ho; cases hd)
          | 25, ho => trivial
          | 26, ho => (obtain rfl := Option.some.inj ho; cases hd)
          | 27, ho => (obtain rfl := Option.some.inj ho; cases hd)
          | 28, ho => trivial
          | 29, ho => (obtain rfl := Option.some.inj ho; cases hd)
          | 30, ho => (obtain rfl := Option.some.inj ho; cases hd)
          | 31, ho => trivial
          | (_ + 32), _ => trivial
      · intro i o u f W ho hi hB hdep
        have hi' : i = 0 ∨ i = 1 ∨ i = 2 ∨ i = 3 ∨ i = 4 ∨ i = 5 ∨ i = 6 ∨ i = 7 ∨ i = 8 ∨ i = 9 ∨ i = 10 ∨ i = 11 ∨ i = 12 ∨ i = 13 ∨ i = 14 ∨ i = 15 ∨ i = 16 ∨ i = 17 ∨ i = 18 ∨ i = 19 ∨ i = 20 ∨ i = 21 ∨ i = 22 ∨ i = 23 ∨ i = 24 ∨ i = 25 ∨ i = 26 ∨ i = 27 ∨ i = 28 ∨ i = 29 ∨ i = 30 ∨ i = 31 := by
          have : i < 32 := hi
          omega
        rcases hi' with rfl | rfl | rfl | rfl | rfl | rfl | rfl | rfl | rfl | rfl | rfl | rfl | rfl | rfl | rfl | rfl | rfl | rfl | rfl | rfl | rfl | rfl | rfl | rfl | rfl | rfl | rfl | rfl | rfl | rfl | rfl | rfl
        · refine iv_val ho (by obtain rfl := Option.some.inj ho; rfl) (.pointer (some ⟨go, j * 3, none⟩)) W ?_ (hB.below HK (Below.refl _ _)) (RR.refl _ _) rfl
          · intro q hq
            obtain rfl := Option.some.inj ho
            have e4 := hq.tmp 4
            simp at e4
            simp [execOp, e4, go_sem]
        · refine iv_val ho (by obtain rfl := Option.some.inj ho; rfl) (.pointer (some ⟨go, j * 3, none⟩)) W ?_ (hB.below HK (Below.refl _ _)) (RR.refl _ _) rfl
          · intro q hq
            obtain rfl := Option.some.inj ho
            have e4 := hq.tmp 4
            simp at e4
            simp [execOp, e4, go_sem]
        · refine iv_val ho (by obtain rfl := Option.some.inj ho; rfl) (.pointer (some ⟨go, j * 3, none⟩)) W ?_ (hB.below HK (Below.refl _ _)) (RR.refl _ _) rfl
          · intro q hq
            obtain rfl := Option.some.inj ho
            have e4 := hq.tmp 4
            simp at e4
            simp [execOp, e4, go_sem]
        · refine iv_val ho (by obtain rfl := Option.some.inj ho; rfl) (.pointer (some ⟨s, 0, none⟩)) W ?_ (hB.below HK (Below.refl _ _)) (RR.refl _ _) rfl
          · intro q hq
            obtain rfl := Option.some.inj ho
            have e0 := hq.tmp 0
            simp at e0
            simp [execOp, e0, go_sem]
        · refine iv_val ho (by obtain rfl := Option.some.inj ho; rfl) (.pointer (some ⟨go, j * 3, none⟩)) W ?_ (hB.below HK (Below.refl _ _)) (RR.refl _ _) rfl
          · intro q hq
            obtain rfl := Option.some.inj ho
            have e4 := hq.tmp 4
            simp at e4
            simp [execOp, e4, go_sem]
        · have d32 : f 32 = .pointer (some ⟨go, j * 3, none⟩) := hdep ⟨4, .data⟩ (by obtain rfl := Option.some.inj ho; simp) rfl
          refine iv_val ho (by obtain rfl := Option.some.inj ho; rfl) (.pointer (some ⟨go, j * 3, none⟩)) W ?_ (hB.below HK (Below.refl _ _)) (RR.refl _ _) rfl
          · intro q hq
            obtain rfl := Option.some.inj ho
            have e32 := hq.tmp 32
            simp at e32
            simp [execOp, e32, d32, go_sem]
        · have d33 : f 33 = .pointer (some ⟨go, j * 3, none⟩) := hdep ⟨5, .data⟩ (by obtain rfl := Option.some.inj ho; simp) rfl
          refine iv_val ho (by obtain rfl := Option.some.inj ho; rfl) (.pointer (some ⟨go, j * 3, none⟩)) W ?_ (hB.below HK (Below.refl _ _)) (RR.refl _ _) rfl
          · intro q hq
            obtain rfl := Option.some.inj ho
            have e33 := hq.tmp 33
            simp at e33
            simp [execOp, e33, d33, go_sem]
        · have d34 : f 34 = .pointer (some ⟨go, j * 3, none⟩) := hdep ⟨6, .data⟩ (by obtain rfl := Option.some.inj ho; simp) rfl
          obtain ⟨⟨l', hO', hn', hOk'⟩, hx'⟩ := hB.own
          obtain ⟨x0, hx0⟩ : ∃ x, l'[j]? = some x := ⟨_, List.getElem?_eq_getElem (by omega)⟩
          have hok0 := hOk' _ (List.mem_of_getElem? hx0)
          have y0 : W.cell? ⟨go, j * 3, none⟩ = some (.string x0.1) := (OwnR.cellf TAl.ok hO' hn'.symm hx0 (fo := 0) rfl).1
          refine iv_val ho (by obtain rfl := Option.some.inj ho; rfl) (.string x0.1) W ?_ (hB.below HK (Below.refl _ _)) (RR.refl _ _) ⟨_, rfl, hok0.1⟩
          · intro q hq
            obtain rfl := Option.some.inj ho
            have e34 := hq.tmp 34
            simp at e34
            simp [execOp, e34, d34, go_sem, y0]
        · refine iv_val ho (by obtain rfl := Option.some.inj ho; rfl) (.pointer (some ⟨go, j * 3, none⟩)) W ?_ (hB.below HK (Below.refl _ _)) (RR.refl _ _) rfl
          · intro q hq
            obtain rfl := Option.some.inj ho
            have e4 := hq.tmp 4
            simp at e4
            simp [execOp, e4, go_sem]
        · have d36 : f 36 = .pointer (some ⟨go, j * 3, none⟩) := hdep ⟨8, .data⟩ (by obtain rfl := Option.some.inj ho; simp) rfl
          refine iv_val ho (by obtain rfl := Option.some.inj ho; rfl) (.pointer (some ⟨go, j * 3, none⟩)) W ?_ (hB.below HK (Below.refl _ _)) (RR.refl _ _) rfl
          · intro q hq
            obtain rfl := Option.some.inj ho
            have e36 := hq.tmp 36
            simp at e36
            simp [execOp, e36, d36, go_sem]
        · have d37 : f 37 = .pointer (some ⟨go, j * 3, none⟩) := hdep ⟨9, .data⟩ (by obtain rfl := Option.some.inj ho; simp) rfl
          refine iv_val ho (by obtain rfl := Option.some.inj ho; rfl) (.pointer (some ⟨go, j * 3 + 1, none⟩)) W ?_ (hB.below HK (Below.refl _ _)) (RR.refl _ _) rfl
          · intro q hq
            obtain rfl := Option.some.inj ho
            have e37 := hq.tmp 37
            simp at e37
            simp [execOp, e37, d37, go_sem]
        · have d38 : f 38 = .pointer (some ⟨go, j * 3 + 1, none⟩) := hdep ⟨10, .data⟩ (by obtain rfl := Option.some.inj ho; simp) rfl
          obtain ⟨⟨l', hO', hn', hOk'⟩, hx'⟩ := hB.own
          obtain ⟨x0, hx0⟩ : ∃ x, l'[j]? = some x := ⟨_, List.getElem?_eq_getElem (by omega)⟩
          have hok0 := hOk' _ (List.mem_of_getElem? hx0)
          have y0 : W.cell? ⟨go, j * 3 + 1, none⟩ = some (.string x0.2.1) := (OwnR.cellf TAl.ok hO' hn'.symm hx0 (fo := 1) rfl).1
          refine iv_val ho (by obtain rfl := Option.some.inj ho; rfl) (.string x0.2.1) W ?_ (hB.below HK (Below.refl _ _)) (RR.refl _ _) ⟨_, rfl, hok0.2⟩
          · intro q hq
            obtain rfl := Option.some.inj ho
            have e38 := hq.tmp 38
            simp at e38
            simp [execOp, e38, d38, go_sem, y0]
        · obtain ⟨x35, d35, p35⟩ : VS 5 (f 35) W := hdep ⟨7, .data⟩ (by obtain rfl := Option.some.inj ho; simp) rfl
          obtain ⟨x39, d39, p39⟩ : VS 5 (f 39) W := hdep ⟨11, .data⟩ (by obtain rfl := Option.some.inj ho; simp) rfl
          refine iv_val ho (by obtain rfl := Option.some.inj ho; rfl) (.slice (some ⟨W.heap.size, 0, none⟩) 3 3) (W.alloc (.cells #[.string x35, .string x39, .string (⟨#[122, 122]⟩ : ByteArray)] 9)) ?_ (hB.below HK (Bl.alloc (Below.refl _ _) _)) (RR.of_below (Bl.alloc (Below.refl _ _) _)) ⟨[x35, x39, (⟨#[122, 122]⟩ : ByteArray)], ⟨_, rfl⟩, rfl, RecR.of_blk (T := TS) (blk_new _ _) rfl rfl (by simp) (by omega) hB.size, ?_⟩
          · intro q hq
            obtain rfl := Option.some.inj ho
            have e35 := hq.tmp 35
            have e39 := hq.tmp 39
            simp at e35 e39
            simp [execOp, hq.const, e35, e39, d35, d39, go_sem]
          · intro x hx
            simp only [List.mem_cons, List.not_mem_nil, or_false] at hx
            rcases hx with rfl | rfl | rfl
            all_goals (first | assumption | (show _ ≤ 5; decide))
        · have d31 : f 31 = .pointer (some ⟨s, 0, none⟩) := hdep ⟨3, .data⟩ (by obtain rfl := Option.some.inj ho; simp) rfl
          obtain ⟨li, ⟨bi, d40⟩, hli, hri, hbi⟩ : VLS (w9.heap.size) 5 3 (f 40) W := hdep ⟨12, .data⟩ (by obtain rfl := Option.some.inj ho; simp) rfl
          refine iv_call ho (by obtain rfl := Option.some.inj ho; rfl) 34 #[.tmp 31, .tmp 40] _ (by obtain rfl := Option.some.inj ho; rfl) (enters_of Tryz.func34 (by kernel_rfl) rfl) #[.pointer (some ⟨s, 0, none⟩), f 40] (by intro q hq; have e31 := hq.tmp 31; simp at e31; have e40 := hq.tmp 40; simp at e40; simp [e31, e40, d31]) _ (Some_any s _ li (f 40) W hB.str (by omega) (Rd.mono hri (by omega)) (by omega) (by omega)) ?_
          rintro e W' ⟨r, rfl, hr, hs', hg'⟩
          exact ⟨_, rfl, hB.call HK hs' (by omega) hg', RR.of_gr hg' (by omega), ⟨r, rfl, hbi r hr⟩⟩
        · refine iv_val ho (by obtain rfl := Option.some.inj ho; rfl) (.pointer (some ⟨s, 0, none⟩)) W ?_ (hB.below HK (Below.refl _ _)) (RR.refl _ _) rfl
          · intro q hq
            obtain rfl := Option.some.inj ho
            have e0 := hq.tmp 0
            simp at e0
            simp [execOp, e0, go_sem]
        · refine iv_val ho (by obtain rfl := Option.some.inj ho; rfl) (.pointer (some ⟨go, j * 3, none⟩)) W ?_ (hB.below HK (Below.refl _ _)) (RR.refl _ _) rfl
          · intro q hq
            obtain rfl := Option.some.inj ho
            have e4 := hq.tmp 4
            simp at e4
            simp [execOp, e4, go_sem]
        · have d43 : f 43 = .pointer (some ⟨go, j * 3, none⟩) := hdep ⟨15, .data⟩ (by obtain rfl := Option.some.inj ho; simp) rfl
          refine iv_val ho (by obtain rfl := Option.some.inj ho; rfl) (.pointer (some ⟨go, j * 3, none⟩)) W ?_ (hB.below HK (Below.refl _ _)) (RR.refl _ _) rfl
          · intro q hq
            obtain rfl := Option.some.inj ho
            have e43 := hq.tmp 43
            simp at e43
            simp [execOp, e43, d43, go_sem]
        · have d44 : f 44 = .pointer (some ⟨go, j * 3, none⟩) := hdep ⟨16, .data⟩ (by obtain rfl := Option.some.inj ho; simp) rfl
          refine iv_val ho (by obtain rfl := Option.some.inj ho; rfl) (.pointer (some ⟨go, j * 3 + 1, none⟩)) W ?_ (hB.below HK (Below.refl _ _)) (RR.refl _ _) rfl
          · intro q hq
            obtain rfl := Option.some.inj ho
            have e44 := hq.tmp 44
            simp at e44
            simp [execOp, e44, d44, go_sem]
        · have d45 : f 45 = .pointer (some ⟨go, j * 3 + 1, none⟩) := hdep ⟨17, .data⟩ (by obtain rfl := Option.some.inj ho; simp) rfl
          obtain ⟨⟨l', hO', hn', hOk'⟩, hx'⟩ := hB.own
          obtain ⟨x0, hx0⟩ : ∃ x, l'[j]? = some x := ⟨_, List.getElem?_eq_getElem (by omega)⟩
          have hok0 := hOk' _ (List.mem_of_getElem? hx0)
          have y0 : W.cell? ⟨go, j * 3 + 1, none⟩ = some (.string x0.2.1) := (OwnR.cellf TAl.ok hO' hn'.symm hx0 (fo := 1) rfl).1
          refine iv_val ho (by obtain rfl := Option.some.inj ho; rfl) (.string x0.2.1) W ?_ (hB.below HK (Below.refl _ _)) (RR.refl _ _) ⟨_, rfl, hok0.2⟩
          · intro q hq
            obtain rfl := Option.some.inj ho
            have e45 := hq.tmp 45
            simp at e45
            simp [execOp, e45, d45, go_sem, y0]
        · obtain ⟨x46, d46, p46⟩ : VS 5 (f 46) W := hdep ⟨18, .data⟩ (by obtain rfl := Option.some.inj ho; simp) rfl
          refine iv_val ho (by obtain rfl := Option.some.inj ho; rfl) (.slice (some ⟨W.heap.size, 0, none⟩) 3 3) (W.alloc (.cells #[.string x46, .string (⟨#[97]⟩ : ByteArray), .string (⟨#[98]⟩ : ByteArray)] 9)) ?_ (hB.below HK (Bl.alloc (Below.refl _ _) _)) (RR.of_below (Bl.alloc (Below.refl _ _) _)) ⟨[x46, (⟨#[97]⟩ : ByteArray), (⟨#[98]⟩ : ByteArray)], ⟨_, rfl⟩, rfl, RecR.of_blk (T := TS) (blk_new _ _) rfl rfl (by simp) (by omega) hB.size, ?_⟩
          · intro q hq
            obtain rfl := Option.some.inj ho
            have e46 := hq.tmp 46
            simp at e46
            simp [execOp, hq.const, e46, d46, go_sem]
          · intro x hx
            simp only [List.mem_cons, List.not_mem_nil, or_false] at hx
            rcases hx with rfl | rfl | rfl
            all_goals (first | assumption | (show _ ≤ 5; decide))
        · have d42 : f 42 = .pointer (some ⟨s, 0, none⟩) := hdep ⟨14, .data⟩ (by obtain rfl := Option.some.inj ho; simp) rfl
          obtain ⟨li, ⟨bi, d47⟩, hli, hri, hbi⟩ : VLS (w9.heap.size) 5 3 (f 47) W := hdep ⟨19, .data⟩ (by obtain rfl := Option.some.inj ho; simp) rfl
          refine iv_call ho (by obtain rfl := Option.some.inj ho; rfl) 34 #[.tmp 42, .tmp 47] _ (by obtain rfl := Option.some.inj ho; rfl) (enters_of Tryz.func34 (by kernel_rfl) rfl) #[.pointer (some ⟨s, 0, none⟩), f 47] (by intro q hq; have e42 := hq.tmp 42; simp at e42; have e47 := hq.tmp 47; simp at e47; simp [e42, e47, d42]) _ (Some_any s _ li (f 47) W hB.str (by omega) (Rd.mono hri (by omega)) (by omega) (by omega)) ?_
          rintro e W' ⟨r, rfl, hr, hs', hg'⟩
          exact ⟨_, rfl, hB.call HK hs' (by omega) hg', RR.of_gr hg' (by omega), ⟨r, rfl, hbi r hr⟩⟩
        · refine iv_val ho (by obtain rfl := Option.some.inj ho; rfl) (.pointer (some ⟨s, 0, none⟩)) W ?_ (hB.below HK (Below.refl _ _)) (RR.refl _ _) rfl
          · intro q hq
            obtain rfl := Option.some.inj ho
            have e0 := hq.tmp 0
            simp at e0
            simp [execOp, e0, go_sem]
        · have d49 : f 49 = .pointer (some ⟨s, 0, none⟩) := hdep ⟨21, .data⟩ (by obtain rfl := Option.some.inj ho; simp) rfl
          refine iv_call ho (by obtain rfl := Option.some.inj ho; rfl) 36 #[.tmp 49, .const (.int .i64 (2))] _ (by obtain rfl := Option.some.inj ho; rfl) (enters_of Tryz.func36 (by kernel_rfl) rfl) #[.pointer (some ⟨s, 0, none⟩), .int .i64 (2)] (by intro q hq; have e49 := hq.tmp 49; simp at e49; simp [hq.const, e49, d49]) _ (Flip_any s _ _ W hB.str (by omega) (by omega)) ?_
          rintro e W' ⟨r, rfl, hs', hg'⟩
          exact ⟨_, rfl, hB.call HK hs' (by omega) hg', RR.of_gr hg' (by omega), ⟨r, rfl⟩⟩
        · have d28 : f 28 = .pointer (some ⟨go, j * 3, none⟩) := hdep ⟨0, .data⟩ (by obtain rfl := Option.some.inj ho; simp) rfl
          refine iv_val ho (by obtain rfl := Option.some.inj ho; rfl) (.pointer (some ⟨go, j * 3, none⟩)) W ?_ (hB.below HK (Below.refl _ _)) (RR.refl _ _) rfl
          · intro q hq
            obtain rfl := Option.some.inj ho
            have e28 := hq.tmp 28
            simp at e28
            simp [execOp, e28, d28, go_sem]
        · have d51 : f 51 = .pointer (some ⟨go, j * 3, none⟩) := hdep ⟨23, .data⟩ (by obtain rfl := Option.some.inj ho; simp) rfl
          refine iv_val ho (by obtain rfl := Option.some.inj ho; rfl) (.pointer (some ⟨go, j * 3, none⟩)) W ?_ (hB.below HK (Below.refl _ _)) (RR.refl _ _) rfl
          · intro q hq
            obtain rfl := Option.some.inj ho
            have e51 := hq.tmp 51
            simp at e51
            simp [execOp, e51, d51, go_sem]
        · have d52 : f 52 = .pointer (some ⟨go, j * 3, none⟩) := hdep ⟨24, .data⟩ (by obtain rfl := Option.some.inj ho; simp) rfl
          obtain ⟨x41, d41, p41⟩ : VS 5 (f 41) W := hdep ⟨13, .data⟩ (by obtain rfl := Option.some.inj ho; simp) rfl
          obtain ⟨⟨l', hO', hn', hOk'⟩, hx'⟩ := hB.own
          obtain ⟨x0, hx0⟩ : ∃ x, l'[j]? = some x := ⟨_, List.getElem?_eq_getElem (by omega)⟩
          have hok0 := hOk' _ (List.mem_of_getElem? hx0)
          obtain ⟨y0, g0⟩ := OwnR.cellf TAl.ok hO' hn'.symm hx0 (fo := 0) rfl
          replace y0 : W.cell? ⟨go, j * 3, none⟩ = some (.string x0.1) := y0
          replace g0 : W.frozen? ⟨go, j * 3, none⟩ = false := g0
          have hO2 : OwnR TAl (W.setCell ⟨go, j * 3, none⟩ (.string x41)) B (.slice (some ⟨go, 0, none⟩) l.length acap) (l'.set j ((x41, x0.2))) := OwnR.setf TAl.ok hO' hn'.symm hx0 (fo := 0) (by decide) rfl
          refine iv_skip ho (by obtain rfl := Option.some.inj ho; rfl) (by obtain rfl := Option.some.inj ho; rfl) (W.setCell ⟨go, j * 3, none⟩ (.string x41)) ?_ (hB.store (by omega) hs ⟨⟨_, hO2, by rw [List.length_set]; exact hn', ?_⟩, HXS.out W _ _ hx'⟩) ⟨by simp, fun i h1 h2 => ?_⟩ trivial
          · intro q hq
            obtain rfl := Option.some.inj ho
            have e41 := hq.tmp 41
            have e52 := hq.tmp 52
            simp at e41 e52
            simp [execOp, e41, e52, d41, d52, go_sem, y0, g0]
          · intro x hx
            rcases List.mem_or_eq_of_mem_set hx with h | rfl
            · exact hOk' x h
            · exact ⟨p41, hok0.2⟩
          · exact Below.heap_setCell _ _ _ _ (by show i ≠ go; omega)
        · have d29 : f 29 = .pointer (some ⟨go, j * 3, none⟩) := hdep ⟨1, .data⟩ (by obtain rfl := Option.some.inj ho; simp) rfl
          refine iv_val ho (by obtain rfl := Option.some.inj ho; rfl) (.pointer (some ⟨go, j * 3, none⟩)) W ?_ (hB.below HK (Below.refl _ _)) (RR.refl _ _) rfl
          · intro q hq
            obtain rfl := Option.some.inj ho
            have e29 := hq.tmp 29
            simp at e29
            simp [execOp, e29, d29, go_sem]
        · have d53 : f 53 = .pointer (some ⟨go, j * 3, none⟩) := hdep ⟨26, .data⟩ (by obtain rfl := Option.some.inj ho; simp) rfl
          refine iv_val ho (by obtain rfl := Option.some.inj ho; rfl) (.pointer (some ⟨go, j * 3 + 1, none⟩)) W ?_ (hB.below HK (Below.refl _ _)) (RR.refl _ _) rfl
          · intro q hq
            obtain rfl := Option.some.inj ho
            have e53 := hq.tmp 53
            simp at e53
            simp [execOp, e53, d53, go_sem]
        · have d54 : f 54 = .pointer (some ⟨go, j * 3 + 1, none⟩) := hdep ⟨27, .data⟩ (by obtain rfl := Option.some.inj ho; simp) rfl
          obtain ⟨x48, d48, p48⟩ : VS 5 (f 48) W := hdep ⟨20, .data⟩ (by obtain rfl := Option.some.inj ho; simp) rfl
          obtain ⟨⟨l', hO', hn', hOk'⟩, hx'⟩ := hB.own
          obtain ⟨x0, hx0⟩ : ∃ x, l'[j]? = some x := ⟨_, List.getElem?_eq_getElem (by omega)⟩
          have hok0 := hOk' _ (List.mem_of_getElem? hx0)
          obtain ⟨y0, g0⟩ := OwnR.cellf TAl.ok hO' hn'.symm hx0 (fo := 1) rfl
          replace y0 : W.cell? ⟨go, j * 3 + 1, none⟩ = some (.string x0.2.1) := y0
          replace g0 : W.frozen? ⟨go, j * 3 + 1, none⟩ = false := g0
          have hO2 : OwnR TAl (W.setCell ⟨go, j * 3 + 1, none⟩ (.string x48)) B (.slice (some ⟨go, 0, none⟩) l.length acap) (l'.set j ((x0.1, x48, x0.2.2))) := OwnR.setf TAl.ok hO' hn'.symm hx0 (fo := 1) (by decide) rfl
          refine iv_skip ho (by obtain rfl := Option.some.inj ho; rfl) (by obtain rfl := Option.some.inj ho; rfl) (W.setCell ⟨go, j * 3 + 1, none⟩ (.string x48)) ?_ (hB.store (by omega) hs ⟨⟨_, hO2, by rw [List.length_set]; exact hn', ?_⟩, HXS.out W _ _ hx'⟩) ⟨by simp, fun i h1 h2 => ?_⟩ trivial
          · intro q hq
            obtain rfl := Option.some.inj ho
            have e48 := hq.tmp 48
            have e54 := hq.tmp 54
            simp at e48 e54
            simp [execOp, e48, e54, d48, d54, go_sem, y0, g0]
          · intro x hx
            rcases List.mem_or_eq_of_mem_set hx with h | rfl
            · exact hOk' x h
            · exact ⟨hok0.1, p48⟩
          · exact Below.heap_setCell _ _ _ _ (by show i ≠ go; omega)
        · have d30 : f 30 = .pointer (some ⟨go, j * 3, none⟩) := hdep ⟨2, .data⟩ (by obtain rfl := Option.some.inj ho; simp) rfl
          refine iv_val ho (by obtain rfl := Option.some.inj ho; rfl) (.pointer (some ⟨go, j * 3, none⟩)) W ?_ (hB.below HK (Below.refl _ _)) (RR.refl _ _) rfl
          · intro q hq
            obtain rfl := Option.some.inj ho
            have e30 := hq.tmp 30
            simp at e30
            simp [execOp, e30, d30, go_sem]
        · have d55 : f 55 = .pointer (some ⟨go, j * 3, none⟩) := hdep ⟨29, .data⟩ (by obtain rfl := Option.some.inj ho; simp) rfl
          refine iv_val ho (by obtain rfl := Option.some.inj ho; rfl) (.pointer (some ⟨go, j * 3 + 2, none⟩)) W ?_ (hB.below HK (Below.refl _ _)) (RR.refl _ _) rfl
          · intro q hq
            obtain rfl := Option.some.inj ho
            have e55 := hq.tmp 55
            simp at e55
            simp [execOp, e55, d55, go_sem]
        · have d56 : f 56 = .pointer (some ⟨go, j * 3 + 2, none⟩) := hdep ⟨30, .data⟩ (by obtain rfl := Option.some.inj ho; simp) rfl
          obtain ⟨x50, d50⟩ : VB (f 50) W := hdep ⟨22, .data⟩ (by obtain rfl := Option.some.inj ho; simp) rfl
          obtain ⟨⟨l', hO', hn', hOk'⟩, hx'⟩ := hB.own
          obtain ⟨x0, hx0⟩ : ∃ x, l'[j]? = some x := ⟨_, List.getElem?_eq_getElem (by omega)⟩
          have hok0 := hOk' _ (List.mem_of_getElem? hx0)
          obtain ⟨y0, g0⟩ := OwnR.cellf TAl.ok hO' hn'.symm hx0 (fo := 2) rfl
          replace y0 : W.cell? ⟨go, j * 3 + 2, none⟩ = some (.bool x0.2.2) := y0
          replace g0 : W.frozen? ⟨go, j * 3 + 2, none⟩ = false := g0
          have hO2 : OwnR TAl (W.setCell ⟨go, j * 3 + 2, none⟩ (.bool x50)) B (.slice (some ⟨go, 0, none⟩) l.length acap) (l'.set j ((x0.1, x0.2.1, x50))) := OwnR.setf TAl.ok hO' hn'.symm hx0 (fo := 2) (by decide) rfl
          refine iv_skip ho (by obtain rfl := Option.some.inj ho; rfl) (by obtain rfl := Option.some.inj ho; rfl) (W.setCell ⟨go, j * 3 + 2, none⟩ (.bool x50)) ?_ (hB.store (by omega) hs ⟨⟨_, hO2, by rw [List.length_set]; exact hn', ?_⟩, HXS.out W _ _ hx'⟩) ⟨by simp, fun i h1 h2 => ?_⟩ trivial
          · intro q hq
            obtain rfl := Option.some.inj ho
            have e50 := hq.tmp 50
            have e56 := hq.tmp 56
            simp at e50 e56
            simp [execOp, e50, e56, d50, d56, go_sem, y0, g0]
          · intro x hx
            rcases List.mem_or_eq_of_mem_set hx with h | rfl
            · exact hOk' x h
            · exact ⟨hok0.1, hok0.2⟩
          · exact Below.heap_setCell _ _ _ _ (by show i ≠ go; omega)
      intro f wz hB' hV
      unfold putsA
      simp only [List.mapIdx_toArray, List.mapIdx_cons, List.mapIdx_nil, List.contains_cons]
      simp
      obtain ⟨hSz, ⟨⟨lz, hOz, hnz, hokz⟩, hXz⟩, _, hGz⟩ := hB'
      have HF := Lib.hid (show CatOk wz B (.slice pa ps.length pcap) (.slice (some ⟨go, 0, none⟩) l.length acap) ps.length l.length ∧ XK wb Kp wz ∧ Str wz s (c + 1000) ∧ w0.grownBy wz (some s) from ⟨⟨ps, lz, rfl, hnz, hXz.2, hOz, okp, hokz⟩, hXz.1, hSz.mono (by omega), hGz⟩)
      clear hSz hOz hGz hokz hXz hV HK hO9 hS9' hG9
      go_wp2
      refine bodyPost_ret (results_none rfl _ _ _) rfl ?_
      exact ⟨rfl, HF.out.1, HF.out.2.1, HF.out.2.2.1, HF.out.2.2.2⟩
end Go.Proofs.YtihgnpobkpnipaaGreatDoor
