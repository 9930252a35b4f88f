/- Texts of the proof of a law, put together, part 28 of 35. Conditions: none beyond those that each theorem names. -/
import Derived.Test.YtihgnpobkpnipaaGreatDoorMz9
import Derived.Test.YtihgnpobkpnipaaGreatDoorMz16
import Derived.Test.YtihgnpobkpnipaaGreatDoorMz21
import Derived.Test.YtihgnpobkpnipaaGreatDoorMz27
namespace Go.Proofs.YtihgnpobkpnipaaGreatDoor
open Go.RowKit Go.Sort
/-- a number as it is drawn: short, and small where it is one. -/
def ValOk (x : ByteArray) : Prop := x.size ≤ 8 ∧ (stkG x = true → stkN x ≤ 10)
theorem valOk_lits : ∀ x ∈ ([⟨#[45, 49]⟩, ⟨#[48, 53]⟩, ⟨#[49, 48, 48, 48, 48, 48, 49]⟩, ⟨#[120]⟩] : List ByteArray), ValOk x := by
  intro x hx
  have h : (([⟨#[45, 49]⟩, ⟨#[48, 53]⟩, ⟨#[49, 48, 48, 48, 48, 48, 49]⟩, ⟨#[120]⟩] : List ByteArray).all fun x => decide (x.size ≤ 8) && !stkG x) = true := by kernel_rfl
  have h2 := List.all_eq_true.1 h x hx
  rw [Bool.and_eq_true, decide_eq_true_eq, Bool.not_eq_true'] at h2
  exact ⟨h2.1, fun e => absurd e (by rw [h2.2]; decide)⟩
def VSv : Value → World → Prop := fun v _ => ∃ s : ByteArray, v = .string s ∧ ValOk s
def VLv (B1 k : Nat) : Value → World → Prop := fun v w => ∃ l : List ByteArray, (∃ b, v = .slice (some ⟨b, 0, none⟩) k k) ∧ l.length = k ∧ RecR TS w B1 v l ∧ ∀ x ∈ l, ValOk x
theorem VLv.stab {B1 k : Nat} {v : Value} {w w' : World} (h : VLv B1 k v w) (hr : RR B1 w w') : VLv B1 k v w' := by
  obtain ⟨l, h1, h2, h3, h4⟩ := h
  exact ⟨l, h1, h2, Rd.keep h3 hr.2 hr.1, h4⟩
def StkOk (x : ByteArray × ByteArray) : Prop := x.1.size ≤ 8 ∧ ValOk x.2
theorem itoa_few {n : Int} (h : n ∈ ([0, 1, 3, 5, 10] : List Int)) : ValOk (⟨(Lib.itoa n).toArray⟩ : ByteArray) := by
  have h1 : (([0, 1, 3, 5, 10] : List Int).all fun n => decide ((⟨(Lib.itoa n).toArray⟩ : ByteArray).size ≤ 8) && decide (stkN (⟨(Lib.itoa n).toArray⟩ : ByteArray) ≤ 10)) = true := by kernel_rfl
  have h2 := List.all_eq_true.1 h1 n h
  rw [Bool.and_eq_true, decide_eq_true_eq, decide_eq_true_eq] at h2
  exact ⟨h2.1, fun _ => h2.2⟩
set_option maxHeartbeats 16000000 in
set_option maxRecDepth 100000 in
theorem StockOf_any (s B : Nat) (c : Int) (ps : List Prt) (vp va : Value) (w : World) (h : Str w s c) (hc : c ≤ 900000) (hsB : s < B) (hP : OwnR TPt w B vp ps) (hp5 : ps.length ≤ 5) (hz : ∀ x ∈ ps, PrtS x) (hT : ∀ W, w.grownBy W (some s) → TxW W) :
    Calls Tryz.prog 19 #[.pointer (some ⟨s, 0, none⟩), .agg #[vp, va]] w fun e w' => ∃ v l, e = .returned v ∧ OwnR TPa w' w.heap.size v l ∧ l.length ≤ 5 ∧ (∀ x ∈ l, StkOk x) ∧ Str w' s (c + 6000) ∧ w.grownBy w' (some s) := by
  have ls := h.lt
  have HPR := Lib.hid fun W (hW : w.grownBy W (some s)) => hP.grown hW hsB
  have HTX := Lib.hid hT
  have HIT : Hid (∀ (n : Int) W, n ∈ ([0, 1, 3, 5, 10] : List Int) → w.grownBy W (some s) → Calls Tryz.prog 25 #[.int .i64 n] W fun e w' => (∃ x : ByteArray, e = .returned (.string x) ∧ ValOk x) ∧ Below W.heap.size W w') := Lib.hid fun n W hn hW => by
    have hb : -9223372036854775808 ≤ n ∧ n ≤ 9223372036854775807 := by
      simp only [List.mem_cons, List.not_mem_nil, or_false] at hn
      omega
    refine (Itoa_any n W (HTX.out W hW) hb.1 hb.2).mono ?_
    rintro e w' ⟨rfl, hb⟩
    exact ⟨⟨_, rfl, itoa_few hn⟩, hb⟩
  have HPI : Hid (∀ (W : World) (g : Nat) (c' : Int), Str W s c' → c' ≤ 990000 → s < g → W.heap[g]? = some (.cells #[.int .i64 0, .int .i64 1, .int .i64 3, .int .i64 5, .int .i64 10] 3 (0, 0)) → Calls Tryz.prog 35 #[.pointer (some ⟨s, 0, none⟩), .slice (some ⟨g, 0, none⟩) 5 5] W fun e w' => ∃ n : Int, e = .returned (.int .i64 n) ∧ n ∈ ([0, 1, 3, 5, 10] : List Int) ∧ Str w' s (c' + 1) ∧ W.grownBy w' (some s)) := Lib.hid fun W g c' hS hc' hsg hg =>
    (Pick_any s c' [0, 1, 3, 5, 10] (.slice (some ⟨g, 0, none⟩) 5 5) W hS (by omega) (Ints.of_blk hg rfl rfl (Nat.le_refl _) (by omega) (by omega)) (by decide) (by decide))
  obtain ⟨pa, pc, rfl, _, _⟩ := hP.form
  have HZ := Lib.hid hz
  obtain ⟨w1, hw1⟩ : ∃ w1, w1 = w.alloc (.cells #[.slice pa ps.length pc, va] 29) := ⟨_, rfl⟩
  have hS1 : Str w1 s c := by rw [hw1]; exact h.alloc _
  have hG1 : w.grownBy w1 (some s) := by rw [hw1]; exact Gr.alloc (Gr.refl _ _) _
  have hx0 : w1.heap[w.heap.size]? = some (.cells #[.slice pa ps.length pc, va] 29 (0, 0)) := by rw [hw1]; exact blk_new w _
  have q0 : w1.cell? ⟨w.heap.size, 0, none⟩ = some (.slice pa ps.length pc) := blk_cell hx0 0
  have hz1 : w1.heap.size = w.heap.size + 1 := by rw [hw1]; simp
  have HW1 := Lib.hid hw1
  have HG1 := Lib.hid hG1
  obtain ⟨n, hn⟩ : ∃ n, n = ps.length := ⟨_, rfl⟩
  have HN := Lib.hid hn
  rw [← hn] at hp5 q0 HPR ⊢
  clear hP hz hT hw1 hx0 hn
  go_enter Tryz.func19, Tryz.ntmps19
  go_wp2_with fail
  rw [show w.alloc (.cells #[.slice pa n pc, va] 29) = w1 from by rw [HW1.out, HN.out]]
  clear q0
  go_loopw [5, 12] (fun v i wr => ∃ (k : Nat) (l : List (ByteArray × ByteArray)), k ≤ n ∧ i = .int .i64 k ∧ Hid (OwnR TPa wr (w.heap.size + 1) v l) ∧ l.length ≤ k ∧ Hid (∀ x ∈ l, StkOk x) ∧ Hid (Str wr s (c + 300 * k)) ∧ Hid (w.grownBy wr (some s)) ∧ w.heap.size < wr.heap.size) (fun _ i _ => n - (intOf i).toNat)
  case atStart => exact ⟨0, [], Nat.zero_le _, rfl, Lib.hid (OwnR.nil _ _), Nat.le_refl _, Lib.hid (by simp), Lib.hid (hS1.mono (by omega)), HG1, by omega⟩
  case round =>
    obtain ⟨k, l, hk, rfl, HO, hlk, HB, HS, HG, hz0⟩ := hrel
    obtain ⟨oa, ocap, hov, _, _⟩ := HO.out.form
    by_cases hlt : k < n
    case pos =>
      obtain ⟨x, hx⟩ : ∃ x, ps[k]? = some x := ⟨_, List.getElem?_eq_getElem (by rw [← HN.out]; exact hlt)⟩
      obtain ⟨hxs, _⟩ := HZ.out x (List.mem_of_getElem? hx)
      obtain ⟨bp, op, rfl, _, _, z⟩ := (HPR.out wr HG.out).rec0.at TPt.ok.len hx TPt.ok.pos
      obtain ⟨ky, xp, xl, xv⟩ := x
      have c0 : wr.cell? ⟨bp, op + k * 4, none⟩ = some (.string ky) := z 0 _ rfl
      have c1 : wr.cell? ⟨bp, op + k * 4 + 1, none⟩ = some (.string xp) := z 1 _ rfl
      have c2 : wr.cell? ⟨bp, op + k * 4 + 2, none⟩ = some (.int .i64 xl) := z 2 _ rfl
      have c3 : wr.cell? ⟨bp, op + k * 4 + 3, none⟩ = some (.int .i64 xv) := z 3 _ rfl
      have HKS : Hid (ky.size ≤ 8) := Lib.hid (by have : ky.size ≤ 5 := hxs; omega)
      obtain ⟨P, hPe⟩ : ∃ P, P = wr.heap.size := ⟨_, rfl⟩
      obtain ⟨w2, hw2⟩ : ∃ w2, w2 = wr.alloc (.cells #[.string ky, .string xp, .int .i64 xl, .int .i64 xv] 66) := ⟨_, rfl⟩
      have hx2 : w2.heap[P]? = some (.cells #[.string ky, .string xp, .int .i64 xl, .int .i64 xv] 66 (0, 0)) := by rw [hw2, hPe]; exact blk_new wr _
      have hsl : s < P := by rw [hPe]; omega
      have hS2 : Str w2 s (c + 300 * k) := by rw [hw2]; exact HS.out.alloc _
      have HG2 : Hid (w.grownBy w2 (some s)) := Lib.hid (by rw [hw2]; exact Gr.alloc HG.out _)
      have HO2 : Hid (OwnR TPa w2 (w.heap.size + 1) (.slice oa l.length ocap) l) := Lib.hid (by have := HO.out; rw [hov] at this; rw [hw2]; exact this.alloc _)
      have HXP : Hid (∀ W, w2.grownBy W (some s) → W.cell? ⟨P, 0, none⟩ = some (.string ky) ∧ P < W.heap.size) := Lib.hid fun W hW => by
        have h := (hW.block P (blk_lt hx2) (by intro e; injection e with e; omega)).trans hx2
        exact ⟨blk_cell h 0, blk_lt h⟩
      have HWX := Lib.hid (And.intro hPe hw2)
      have HFL := Lib.hid (Flip_any s _ 3 w2 hS2 (by omega) (by omega))
      have hz2 : wr.heap.size < w2.heap.size := by rw [hw2]; simp
      have hwk : IntKind.i64.wrap ((k : Int) + 1) = ((k + 1 : Nat) : Int) := by rw [IntWalk.i64_in _ (by omega)]; omega
      clear hx hxs z hPe hw2 hx2 hS2
      go_wp2_with fail
      rw [← HWX.out.2, ← HWX.out.1]
      clear c0 c1 c2 c3
      refine HFL.out.mono ?_
      rintro e w3 ⟨fl, rfl, hS3, hG3⟩
      have HG3 := Lib.hid (Gr.trans HG2.out hG3)
      have HO3 : Hid (OwnR TPa w3 (w.heap.size + 1) (.slice oa l.length ocap) l) := Lib.hid (HO2.out.grown hG3 (by omega))
      have hz3 : w.heap.size < w3.heap.size := by have := hG3.size; omega
      have HXQ : Hid (∀ W, w3.grownBy W (some s) → W.cell? ⟨P, 0, none⟩ = some (.string ky) ∧ P < W.heap.size) := Lib.hid fun W hW => HXP.out W (Gr.trans hG3 hW)
      have HS3 := Lib.hid (hS3.mono (d := c + 300 * k + 5) (by omega))
      clear hS3 hG3 HFL HXP
      cases fl
      case true =>
        have HSN := Lib.hid (HS3.out.mono (d := c + 300 * ((k + 1 : Nat) : Int)) (by omega))
        go_wp2
        go_roundw
        case rel => exact ⟨k + 1, l, by omega, by go_num, HO3, by omega, HB, HSN, HG3, hz3⟩
        case measure => simp [intOf]; omega
      have HLL : Hid (l.length ≤ 1000000) := Lib.hid (by omega)
      obtain ⟨ll, hll⟩ : ∃ q, q = l.length := ⟨_, rfl⟩
      have HLE := Lib.hid hll
      rw [← hll] at hlk HO3 ⊢
      clear hov hll
      go_wp2_with fail
      have hGd : w3.grownBy w3.drew (some s) := Gr.of_below (Below.drew (Below.refl _ _)) _
      obtain ⟨d0, lP⟩ := HXQ.out w3 (Gr.refl _ _)
      obtain ⟨t0, lP2⟩ := HXQ.out w3.drew hGd
      have hg4 : w3.grownBy (w3.drew.alloc (.cells #[.int .i64 0, .int .i64 1, .int .i64 3, .int .i64 5, .int .i64 10] 3)) (some s) := Gr.alloc hGd _
      obtain ⟨s0, lP3⟩ := HXQ.out _ hg4
      go_region_law (first
        | (refine step_goN rfl 35 #[.tmp 22, .tmp 23] _ rfl (enters_of Tryz.func35 (by kernel_rfl) rfl) #[.pointer (some ⟨s, 0, none⟩), .slice (some ⟨w3.heap.size, 0, none⟩) 5 5] (by simp [Act.eval]) _ (HPI.out _ _ (c + 300 * k + 5) (by first | exact (HS3.out.drew).alloc _ | exact (HS3.out.alloc _).drew | exact HS3.out.alloc _) (by omega) (by omega) (by first | exact blk_new w3.drew _ | exact blk_new w3 _)) ?_; rintro e w5 ⟨pn, rfl, hpn, hS5, hG5⟩; refine ⟨_, rfl, ?_⟩; have hG35 : w3.grownBy w5 (some s) := Gr.trans (by first | exact hg4 | exact Gr.alloc (Gr.refl _ _) _) hG5; obtain ⟨a0, lP5⟩ := HXQ.out w5 hG35; have hS5' := hS5)
        | (refine step_goN rfl 25 #[.tmp 24] _ rfl (enters_of Tryz.func25 (by kernel_rfl) rfl) #[.int .i64 pn] (by simp [Act.eval]) _ (HIT.out pn _ hpn (Gr.trans HG3.out hG35)) ?_; rintro e w6 ⟨⟨sv, rfl, hsv⟩, hb6⟩; refine ⟨_, rfl, ?_⟩; have hG36 : w3.grownBy w6 (some s) := Gr.trans hG35 (Gr.of_below hb6 _); obtain ⟨b0, lP6⟩ := HXQ.out w6 hG36; have hS6 := hS5'.belowB hb6 hS5'.lt)
        | (refine step_app_r TPa.ok rfl (.tmp 19) (.tmp 27) rfl (w.heap.size + 1) _ l (by simp [Act.eval]) ((HO3.out.grown hG36 (by omega)).alloc _) w6.heap.size 1 (ky, sv) (by simp [Act.eval]) (blk_new w6 _) rfl HLL.out (by have := hG36.size; simp; omega) ?_; intro v9 w9 hO9 hg9 _; have hF9 := And.intro hO9 hg9))
      all_goals (
        have HO9 := Lib.hid hF9.1
        have hO6 := (HO3.out.grown hG36 (show s < w.heap.size + 1 by omega)).alloc (.cells #[.string ky, .string sv] 50)
        have HB9 := Lib.hid (app_belowR hO6 hF9.2 (by have := hG36.size; simp; omega))
        have HS9 : Hid (Str w9 s (c + 300 * ((k + 1 : Nat) : Int))) := Lib.hid (((hS6.alloc (.cells #[.string ky, .string sv] 50)).belowB HB9.out (show s < w.heap.size + 1 by omega)).mono (by omega))
        have HG9 : Hid (w.grownBy w9 (some s)) := Lib.hid (Gr.appR (Gr.alloc (Gr.trans HG3.out hG36) (.cells #[.string ky, .string sv] 50)) hO6 hF9.2 (Nat.le_succ _))
        have hz9 : w.heap.size < w9.heap.size := by have h1 := hF9.2.size; have h2 := hG36.size; simp at h1; omega
        have HOK9 : Hid (∀ x ∈ l ++ [(ky, sv)], StkOk x) := Lib.hid (by
          intro x hx
          rcases List.mem_append.1 hx with q | q
          · exact HB.out x q
          · rw [List.mem_singleton.1 q]
            exact ⟨HKS.out, hsv⟩)
        have hl9 : (l ++ [(ky, sv)]).length ≤ k + 1 := by rw [List.length_append]; have := HLE.out; simp; omega
        clear hF9 hO6 hS6 hG36 hG35 hS5 hS5' hG5 hb6 hO9 hg9 a0 b0 d0 t0 s0 lP lP2 lP3 lP5 lP6 hg4 hGd
        go_wp2
        go_roundw
        case rel => exact ⟨k + 1, _, by omega, by go_num, HO9, hl9, HOK9, HS9, HG9, hz9⟩
        case measure => simp [intOf]; omega)
    obtain rfl : k = n := by omega
    subst hov
    have hO := HO.out.base (show w.heap.size ≤ w.heap.size + 1 by omega)
    have hB := HB.out
    have hS := HS.out.mono (d := c + 3000) (by omega)
    have hG := HG.out
    have hl5 : l.length ≤ 5 := by omega
    have HLL := Lib.hid (And.intro hO (And.intro hB (And.intro (hS.mono (d := c + 6000) (by omega)) hG)))
    clear HO HB HS HG
    by_cases h0 : l.length = 0
    · obtain rfl := List.eq_nil_of_length_eq_zero h0
      clear hO hS hB
      go_wp2
      go_ret
      exact ⟨_, [], rfl, HLL.out.1, by simp, by simp, HLL.out.2.2.1, HLL.out.2.2.2⟩
    have h0' : (0 : Int) < (l.length : Int) := by omega
    have hlpos : l ≠ [] := fun e => h0 (by rw [e]; rfl)
    obtain ⟨go, cap, cur, hoa, hgo, hgb, hcl, _⟩ := hO.blk hlpos
    injection hoa with hoa1 _ hoa2
    subst hoa1 hoa2
    clear hgb
    go_wp2_with fail
    refine (Flip_any s _ 15 wr hS (by omega) (by omega)).mono ?_
    rintro e w8 ⟨fl, rfl, hS8, hG8⟩
    have hO8 := hO.grown hG8 ls
    have hG8' := Gr.trans hG hG8
    clear hO hS hG8
    cases fl
    · have HF := Lib.hid (And.intro hO8 (And.intro (hS8.mono (d := c + 6000) (by omega)) hG8'))
      clear hO8 hS8 hG8'
      go_wp2
      go_ret
      exact ⟨_, l, rfl, HF.out.1, hl5, hB, HF.out.2.1, HF.out.2.2⟩
    · go_wp2_with fail
      refine (Next_any s _ l.length w8 hS8 (by omega) (by omega)).mono ?_
      rintro e w9 ⟨j, rfl, ⟨hj0, hj1, _⟩, hS9, hG9⟩
      have hj2 := hj1 (by omega)
      clear hj1
      obtain ⟨j, rfl⟩ := Int.eq_ofNat_of_zero_le hj0
      have hO9 := hO8.grown hG9 ls
      have hG9' := Gr.trans hG8' hG9
      have hgo9 : go < w9.heap.size := by
        have := (World.ownsRow.lt hO9 go rfl).2
        exact this
      have hjn : j < l.length := by omega
      have hS9' := hS9.mono (d := c + 5000 + 300) (by omega)
      clear hO8 hS8 hG8' hG9 hS9
      have HK : OwnK (fun W => ∃ l' : List (ByteArray × ByteArray), OwnR TPa W w.heap.size (.slice (some ⟨go, 0, none⟩) l.length ocap) l' ∧ l'.length = l.length ∧ ∀ x ∈ l', StkOk x) s := ⟨fun W W' h hb => (by obtain ⟨l', h1, h2⟩ := h; exact ⟨l', h1.below hb, h2⟩), fun W W' h hg => (by obtain ⟨l', h1, h2⟩ := h; exact ⟨l', h1.grown hg ls, h2⟩)⟩
      go_wp2
      refine wp_region_inv (by kernel_rfl) [43, 44, 45, 46, 47, 48, 49, 50, 51, 52, 53, 54, 55, 56, 57, 58, 59, 60, 61, 62] (RB (fun W => ∃ l' : List (ByteArray × ByteArray), OwnR TPa W w.heap.size (.slice (some ⟨go, 0, none⟩) l.length ocap) l' ∧ l'.length = l.length ∧ ∀ x ∈ l', StkOk x) w s (w9.heap.size) (c + 5000 + 900)) (RR (w9.heap.size)) (fun i => [VE (.pointer (some ⟨go, j * 2, none⟩)), VE (.pointer (some ⟨go, j * 2, none⟩)), VE (.pointer (some ⟨s, 0, none⟩)), VE (.pointer (some ⟨go, j * 2, none⟩)), VE (.pointer (some ⟨go, j * 2, none⟩)), VE (.pointer (some ⟨go, j * 2, none⟩)), VS 8, VLS (w9.heap.size) 8 3, VS 8, VE (.pointer (some ⟨s, 0, none⟩)), VE (.pointer (some ⟨go, j * 2, none⟩)), VE (.pointer (some ⟨go, j * 2, none⟩)), VE (.pointer (some ⟨go, j * 2 + 1, none⟩)), VSv, VLv (w9.heap.size) 5, VSv, VE (.pointer (some ⟨go, j * 2, none⟩)), VE (.pointer (some ⟨go, j * 2, none⟩)), VT, VE (.pointer (some ⟨go, j * 2, none⟩)), VE (.pointer (some ⟨go, j * 2 + 1, none⟩)), VT].getD i VT) (by kernel_rfl) (by kernel_rfl) (fun u u' W hu h => h.mono hu) ?_ ?_ ?_ ?_ ?_
      · exact ⟨(hS9'.drew).mono (by show _ ≤ (c + 5000 + 900) - 10 * ((22 : Nat) : Int); omega), ⟨l, hO9, rfl, hB⟩, Nat.le_refl _, ⟨hG9'.os, hG9'.tape, hG9'.output, hG9'.size, hG9'.block⟩⟩
      · intro u W W' i v hB hR hV
        exact match i, hV with
          | 0, h => h
          | 1, h => h
          | 2, h => h
          | 3, h => h
          | 4, h => h
          | 5, h => h
          | 6, h => h
          | 7, h => VLS.stab h hR
          | 8, h => h
          | 9, h => h
          | 10, h => h
          | 11, h => h
          | 12, h => h
          | 13, h => h
          | 14, h => VLv.stab h hR
          | 15, h => h
          | 16, h => h
          | 17, h => h
          | 18, h => h
          | 19, h => h
          | 20, h => h
          | 21, h => h
          | (_ + 22), _ => trivial
      · intro i o v W ho hd
        match i, ho with
          | 0, ho => (obtain rfl := Option.some.inj ho; cases hd)
          | 1, ho => (obtain rfl := Option.some.inj ho; cases hd)
          | 2, ho => (obtain rfl := Option.some.inj ho; cases hd)
          | 3, ho => (obtain rfl := Option.some.inj ho; cases hd)
          | 4, ho => (obtain rfl := Option.some.inj ho; cases hd)
          | 5, ho => (obtain rfl := Option.some.inj ho; cases hd)
          | 6, ho => (obtain rfl := Option.some.inj ho; cases hd)
          | 7, ho => (obtain rfl := Option.some.inj ho; cases hd)
          | 8, ho => (obtain rfl := Option.some.inj ho; cases hd)
          | 9, ho => (obtain rfl := Option.some.inj ho; cases hd)
          | 10, ho => (obtain rfl := Option.some.inj ho; cases hd)
          | 11, ho => (obtain rfl := Option.some.inj ho; cases hd)
          | 12, ho => (obtain rfl := Option.some.inj ho; cases hd)
          | 13, ho => (obtain rfl := Option.some.inj ho; cases hd)
          | 14, ho => (obtain rfl := Option.some.inj ho; cases hd)
          | 15, ho => (obtain rfl := Option.some.inj ho; cases hd)
          | 16, ho => (obtain rfl := Option.some.inj ho; cases hd)
          | 17, ho => (obtain rfl := Option.some.inj ho; cases hd)
          | 18, ho => trivial
          | 19, ho => (obtain rfl := Option.some.inj ho; cases hd)
          | 20, ho => (obtain rfl := Option.some.inj ho; cases hd)
          | 21, ho => trivial
          | (_ + 22), _ => trivial
      · intro i o u f W ho hi hB hdep
        have hi' : i = 0 ∨ i = 1 ∨ i = 2 ∨ i = 3 ∨ i = 4 ∨ i = 5 ∨ i = 6 ∨ i = 7 ∨ i = 8 ∨ i = 9 ∨ i = 10 ∨ i = 11 ∨ i = 12 ∨ i = 13 ∨ i = 14 ∨ i = 15 ∨ i = 16 ∨ i = 17 ∨ i = 18 ∨ i = 19 ∨ i = 20 ∨ i = 21 := by
          have : i < 22 := hi
          omega
        rcases hi' with rfl | rfl | rfl | rfl | rfl | rfl | rfl | rfl | rfl | rfl | rfl | rfl | rfl | rfl | rfl | rfl | rfl | rfl | rfl | rfl | rfl | rfl
        · refine iv_val ho (by obtain rfl := Option.some.inj ho; rfl) (.pointer (some ⟨go, j * 2, none⟩)) W ?_ (hB.below HK (Below.refl _ _)) (RR.refl _ _) rfl
          · intro q hq
            obtain rfl := Option.some.inj ho
            have e8 := hq.tmp 8
            simp at e8
            simp [execOp, e8, go_sem]
        · refine iv_val ho (by obtain rfl := Option.some.inj ho; rfl) (.pointer (some ⟨go, j * 2, none⟩)) W ?_ (hB.below HK (Below.refl _ _)) (RR.refl _ _) rfl
          · intro q hq
            obtain rfl := Option.some.inj ho
            have e8 := hq.tmp 8
            simp at e8
            simp [execOp, e8, go_sem]
        · refine iv_val ho (by obtain rfl := Option.some.inj ho; rfl) (.pointer (some ⟨s, 0, none⟩)) W ?_ (hB.below HK (Below.refl _ _)) (RR.refl _ _) rfl
          · intro q hq
            obtain rfl := Option.some.inj ho
            have e0 := hq.tmp 0
            simp at e0
            simp [execOp, e0, go_sem]
        · refine iv_val ho (by obtain rfl := Option.some.inj ho; rfl) (.pointer (some ⟨go, j * 2, none⟩)) W ?_ (hB.below HK (Below.refl _ _)) (RR.refl _ _) rfl
          · intro q hq
            obtain rfl := Option.some.inj ho
            have e8 := hq.tmp 8
            simp at e8
            simp [execOp, e8, go_sem]
        · have d46 : f 46 = .pointer (some ⟨go, j * 2, none⟩) := hdep ⟨3, .data⟩ (by obtain rfl := Option.some.inj ho; simp) rfl
          refine iv_val ho (by obtain rfl := Option.some.inj ho; rfl) (.pointer (some ⟨go, j * 2, none⟩)) W ?_ (hB.below HK (Below.refl _ _)) (RR.refl _ _) rfl
          · intro q hq
            obtain rfl := Option.some.inj ho
            have e46 := hq.tmp 46
            simp at e46
            simp [execOp, e46, d46, go_sem]
        · have d47 : f 47 = .pointer (some ⟨go, j * 2, none⟩) := hdep ⟨4, .data⟩ (by obtain rfl := Option.some.inj ho; simp) rfl
          refine iv_val ho (by obtain rfl := Option.some.inj ho; rfl) (.pointer (some ⟨go, j * 2, none⟩)) W ?_ (hB.below HK (Below.refl _ _)) (RR.refl _ _) rfl
          · intro q hq
            obtain rfl := Option.some.inj ho
            have e47 := hq.tmp 47
            simp at e47
            simp [execOp, e47, d47, go_sem]
        · have d48 : f 48 = .pointer (some ⟨go, j * 2, none⟩) := hdep ⟨5, .data⟩ (by obtain rfl := Option.some.inj ho; simp) rfl
          obtain ⟨l', hO', hn', hOk'⟩ := hB.own
          obtain ⟨x0, hx0⟩ : ∃ x, l'[j]? = some x := ⟨_, List.getElem?_eq_getElem (by omega)⟩
          have hok0 := hOk' _ (List.mem_of_getElem? hx0)
          have y0 : W.cell? ⟨go, j * 2, none⟩ = some (.string x0.1) := (OwnR.cellf TPa.ok hO' hn'.symm hx0 (fo := 0) rfl).1
          refine iv_val ho (by obtain rfl := Option.some.inj ho; rfl) (.string x0.1) W ?_ (hB.below HK (Below.refl _ _)) (RR.refl _ _) ⟨_, rfl, hok0.1⟩
          · intro q hq
            obtain rfl := Option.some.inj ho
            have e48 := hq.tmp 48
            simp at e48
            simp [execOp, e48, d48, go_sem, y0]
        · obtain ⟨x49, d49, p49⟩ : VS 8 (f 49) W := hdep ⟨6, .data⟩ (by obtain rfl := Option.some.inj ho; simp) rfl
          refine iv_val ho (by obtain rfl := Option.some.inj ho; rfl) (.slice (some ⟨W.heap.size, 0, none⟩) 3 3) (W.alloc (.cells #[.string x49, .string (⟨#[122, 122]⟩ : ByteArray), .string (⟨#[97]⟩ : ByteArray)] 9)) ?_ (hB.below HK (Bl.alloc (Below.refl _ _) _)) (RR.of_below (Bl.alloc (Below.refl _ _) _)) ⟨[x49, (⟨#[122, 122]⟩ : ByteArray), (⟨#[97]⟩ : ByteArray)], ⟨_, rfl⟩, rfl, RecR.of_blk (T := TS) (blk_new _ _) rfl rfl (by simp) (by omega) hB.size, ?_⟩
          · intro q hq
            obtain rfl := Option.some.inj ho
            have e49 := hq.tmp 49
            simp at e49
            simp [execOp, hq.const, e49, d49, go_sem]
          · intro x hx
            simp only [List.mem_cons, List.not_mem_nil, or_false] at hx
            rcases hx with rfl | rfl | rfl
            all_goals (first | assumption | (show _ ≤ 8; decide))
        · have d45 : f 45 = .pointer (some ⟨s, 0, none⟩) := hdep ⟨2, .data⟩ (by obtain rfl := Option.some.inj ho; simp) rfl
          obtain ⟨li, ⟨bi, d50⟩, hli, hri, hbi⟩ : VLS (w9.heap.size) 8 3 (f 50) W := hdep ⟨7, .data⟩ (by obtain rfl := Option.some.inj ho; simp) rfl
          refine iv_call ho (by obtain rfl := Option.some.inj ho; rfl) 34 #[.tmp 45, .tmp 50] _ (by obtain rfl := Option.some.inj ho; rfl) (enters_of Tryz.func34 (by kernel_rfl) rfl) #[.pointer (some ⟨s, 0, none⟩), f 50] (by intro q hq; have e45 := hq.tmp 45; simp at e45; have e50 := hq.tmp 50; simp at e50; simp [e45, e50, d45]) _ (Some_any s _ li (f 50) W hB.str (by omega) (Rd.mono hri (by omega)) (by omega) (by omega)) ?_
          rintro e W' ⟨r, rfl, hr, hs', hg'⟩
          exact ⟨_, rfl, hB.call HK hs' (by omega) hg', RR.of_gr hg' (by omega), ⟨r, rfl, hbi r hr⟩⟩
        · refine iv_val ho (by obtain rfl := Option.some.inj ho; rfl) (.pointer (some ⟨s, 0, none⟩)) W ?_ (hB.below HK (Below.refl _ _)) (RR.refl _ _) rfl
          · intro q hq
            obtain rfl := Option.some.inj ho
            have e0 := hq.tmp 0
            simp at e0
            simp [execOp, e0, go_sem]
        · refine iv_val ho (by obtain rfl := Option.some.inj ho; rfl) (.pointer (some ⟨go, j * 2, none⟩)) W ?_ (hB.below HK (Below.refl _ _)) (RR.refl _ _) rfl
          · intro q hq
            obtain rfl := Option.some.inj ho
            have e8 := hq.tmp 8
            simp at e8
            simp [execOp, e8, go_sem]
        · have d53 : f 53 = .pointer (some ⟨go, j * 2, none⟩) := hdep ⟨10, .data⟩ (by obtain rfl := Option.some.inj ho; simp) rfl
          refine iv_val ho (by obtain rfl := Option.some.inj ho; rfl) (.pointer (some ⟨go, j * 2, none⟩)) W ?_ (hB.below HK (Below.refl _ _)) (RR.refl _ _) rfl
          · intro q hq
            obtain rfl := Option.some.inj ho
            have e53 := hq.tmp 53
            simp at e53
            simp [execOp, e53, d53, go_sem]
        · have d54 : f 54 = .pointer (some ⟨go, j * 2, none⟩) := hdep ⟨11, .data⟩ (by obtain rfl := Option.some.inj ho; simp) rfl
          refine iv_val ho (by obtain rfl := Option.some.inj ho; rfl) (.pointer (some ⟨go, j * 2 + 1, none⟩)) W ?_ (hB.below HK (Below.refl _ _)) (RR.refl _ _) rfl
          · intro q hq
            obtain rfl := Option.some.inj ho
            have e54 := hq.tmp 54
            simp at e54
            simp [execOp, e54, d54, go_sem]
        · have d55 : f 55 = .pointer (some ⟨go, j * 2 + 1, none⟩) := hdep ⟨12, .data⟩ (by obtain rfl := Option.some.inj ho; simp) rfl
          obtain ⟨l', hO', hn', hOk'⟩ := hB.own
          obtain ⟨x0, hx0⟩ : ∃ x, l'[j]? = some x := ⟨_, List.getElem?_eq_getElem (by omega)⟩
          have hok0 := hOk' _ (List.mem_of_getElem? hx0)
          have y0 : W.cell? ⟨go, j * 2 + 1, none⟩ = some (.string x0.2) := (OwnR.cellf TPa.ok hO' hn'.symm hx0 (fo := 1) rfl).1
          refine iv_val ho (by obtain rfl := Option.some.inj ho; rfl) (.string x0.2) W ?_ (hB.below HK (Below.refl _ _)) (RR.refl _ _) ⟨_, rfl, hok0.2⟩
          · intro q hq
            obtain rfl := Option.some.inj ho
            have e55 := hq.tmp 55
            simp at e55
            simp [execOp, e55, d55, go_sem, y0]
        · obtain ⟨x56, d56, p56⟩ : VSv (f 56) W := hdep ⟨13, .data⟩ (by obtain rfl := Option.some.inj ho; simp) rfl
          refine iv_val ho (by obtain rfl := Option.some.inj ho; rfl) (.slice (some ⟨W.heap.size, 0, none⟩) 5 5) (W.alloc (.cells #[.string x56, .string (⟨#[45, 49]⟩ : ByteArray), .string (⟨#[48, 53]⟩ : ByteArray), .string (⟨#[49, 48, 48, 48, 48, 48, 49]⟩ : ByteArray), .string (⟨#[120]⟩ : ByteArray)] 9)) ?_ (hB.below HK (Bl.alloc (Below.refl _ _) _)) (RR.of_below (Bl.alloc (Below.refl _ _) _)) ⟨[x56, (⟨#[45, 49]⟩ : ByteArray), (⟨#[48, 53]⟩ : ByteArray), (⟨#[49, 48, 48, 48, 48, 48, 49]⟩ : ByteArray), (⟨#[120]⟩ : ByteArray)], ⟨_, rfl⟩, rfl, RecR.of_blk (T := TS) (blk_new _ _) rfl rfl (by simp) (by omega) hB.size, ?_⟩
          · intro q hq
            obtain rfl := Option.some.inj ho
            have e56 := hq.tmp 56
            simp at e56
            simp [execOp, hq.const, e56, d56, go_sem]
          · intro x hx
            simp only [List.mem_cons, List.not_mem_nil, or_false] at hx
            rcases hx with rfl | rfl | rfl | rfl | rfl
            all_goals (first | assumption | exact valOk_lits _ (by simp))
        · have d52 : f 52 = .pointer (some ⟨s, 0, none⟩) := hdep ⟨9, .data⟩ (by obtain rfl := Option.some.inj ho; simp) rfl
          obtain ⟨li, ⟨bi, d57⟩, hli, hri, hbi⟩ : VLv (w9.heap.size) 5 (f 57) W := hdep ⟨14, .data⟩ (by obtain rfl := Option.some.inj ho; simp) rfl
          refine iv_call ho (by obtain rfl := Option.some.inj ho; rfl) 34 #[.tmp 52, .tmp 57] _ (by obtain rfl := Option.some.inj ho; rfl) (enters_of Tryz.func34 (by kernel_rfl) rfl) #[.pointer (some ⟨s, 0, none⟩), f 57] (by intro q hq; have e52 := hq.tmp 52; simp at e52; have e57 := hq.tmp 57; simp at e57; simp [e52, e57, d52]) _ (Some_any s _ li (f 57) W hB.str (by omega) (Rd.mono hri (by omega)) (by omega) (by omega)) ?_
          rintro e W' ⟨r, rfl, hr, hs', hg'⟩
          exact ⟨_, rfl, hB.call HK hs' (by omega) hg', RR.of_gr hg' (by omega), ⟨r, rfl, hbi r hr⟩⟩
        · have d43 : f 43 = .pointer (some ⟨go, j * 2, none⟩) := hdep ⟨0, .data⟩ (by obtain rfl := Option.some.inj ho; simp) rfl
          refine iv_val ho (by obtain rfl := Option.some.inj ho; rfl) (.pointer (some ⟨go, j * 2, none⟩)) W ?_ (hB.below HK (Below.refl _ _)) (RR.refl _ _) rfl
          · intro q hq
            obtain rfl := Option.some.inj ho
            have e43 := hq.tmp 43
            simp at e43
            simp [execOp, e43, d43, go_sem]
        · have d59 : f 59 = .pointer (some ⟨go, j * 2, none⟩) := hdep ⟨16, .data⟩ (by obtain rfl := Option.some.inj ho; simp) rfl
          refine iv_val ho (by obtain rfl := Option.some.inj ho; rfl) (.pointer (some ⟨go, j * 2, none⟩)) W ?_ (hB.below HK (Below.refl _ _)) (RR.refl _ _) rfl
          · intro q hq
            obtain rfl := Option.some.inj ho
            have e59 := hq.tmp 59
            simp at e59
            simp [execOp, e59, d59, go_sem]
        · have d60 : f 60 = .pointer (some ⟨go, j * 2, none⟩) := hdep ⟨17, .data⟩ (by obtain rfl := Option.some.inj ho; simp) rfl
          obtain ⟨x51, d51, p51⟩ : VS 8 (f 51) W := hdep ⟨8, .data⟩ (by obtain rfl := Option.some.inj ho; simp) rfl
          obtain ⟨l', hO', hn', hOk'⟩ := hB.own
          obtain ⟨x0, hx0⟩ : ∃ x, l'[j]? = some x := ⟨_, List.getElem?_eq_getElem (by omega)⟩
          have hok0 := hOk' _ (List.mem_of_getElem? hx0)
          obtain ⟨y0, g0⟩ := OwnR.cellf TPa.ok hO' hn'.symm hx0 (fo := 0) rfl
          replace y0 : W.cell? ⟨go, j * 2, none⟩ = some (.string x0.1) := y0
          replace g0 : W.frozen? ⟨go, j * 2, none⟩ = false := g0
          have hO2 : OwnR TPa (W.setCell ⟨go, j * 2, none⟩ (.string x51)) w.heap.size (.slice (some ⟨go, 0, none⟩) l.length ocap) (l'.set j ((x51, x0.2))) := OwnR.setf TPa.ok hO' hn'.symm hx0 (fo := 0) (by decide) rfl
          refine iv_skip ho (by obtain rfl := Option.some.inj ho; rfl) (by obtain rfl := Option.some.inj ho; rfl) (W.setCell ⟨go, j * 2, none⟩ (.string x51)) ?_ (hB.store (by omega) ls ⟨_, hO2, by rw [List.length_set]; exact hn', ?_⟩) ⟨by simp, fun i h1 h2 => ?_⟩ trivial
          · intro q hq
            obtain rfl := Option.some.inj ho
            have e51 := hq.tmp 51
            have e60 := hq.tmp 60
            simp at e51 e60
            simp [execOp, e51, e60, d51, d60, go_sem, y0, g0]
          · intro x hx
            rcases List.mem_or_eq_of_mem_set hx with h | rfl
            · exact hOk' x h
            · exact ⟨p51, hok0.2⟩
          · exact Below.heap_setCell _ _ _ _ (by show i ≠ go; omega)
        · have d44 : f 44 = .pointer (some ⟨go, j * 2, none⟩) := hdep ⟨1, .data⟩ (by obtain rfl := Option.some.inj ho; simp) rfl
          refine iv_val ho (by obtain rfl := Option.some.inj ho; rfl) (.pointer (some ⟨go, j * 2, none⟩)) W ?_ (hB.below HK (Below.refl _ _)) (RR.refl _ _) rfl
          · intro q hq
            obtain rfl := Option.some.inj ho
            have e44 := hq.tmp 44
            simp at e44
            simp [execOp, e44, d44, go_sem]
        · have d61 : f 61 = .pointer (some ⟨go, j * 2, none⟩) := hdep ⟨19, .data⟩ (by obtain rfl := Option.some.inj ho; simp) rfl
          refine iv_val ho (by obtain rfl := Option.some.inj ho; rfl) (.pointer (some ⟨go, j * 2 + 1, none⟩)) W ?_ (hB.below HK (Below.refl _ _)) (RR.refl _ _) rfl
          · intro q hq
            obtain rfl := Option.some.inj ho
            have e61 := hq.tmp 61
            simp at e61
            simp [execOp, e61, d61, go_sem]
        · have d62 : f 62 = .pointer (some ⟨go, j * 2 + 1, none⟩) := hdep ⟨20, .data⟩ (by obtain rfl := Option.some.inj ho; simp) rfl
          obtain ⟨x58, d58, p58⟩ : VSv (f 58) W := hdep ⟨15, .data⟩ (by obtain rfl := Option.some.inj ho; simp) rfl
          obtain ⟨l', hO', hn', hOk'⟩ := hB.own
          obtain ⟨x0, hx0⟩ : ∃ x, l'[j]? = some x := ⟨_, List.getElem?_eq_getElem (by omega)⟩
          have hok0 := hOk' _ (List.mem_of_getElem? hx0)
          obtain ⟨y0, g0⟩ := OwnR.cellf TPa.ok hO' hn'.symm hx0 (fo := 1) rfl
          replace y0 : W.cell? ⟨go, j * 2 + 1, none⟩ = some (.string x0.2) := y0
          replace g0 : W.frozen? ⟨go, j * 2 + 1, none⟩ = false := g0
          have hO2 : OwnR TPa (W.setCell ⟨go, j * 2 + 1, none⟩ (.string x58)) w.heap.size (.slice (some ⟨go, 0, none⟩) l.length ocap) (l'.set j ((x0.1, x58))) := OwnR.setf TPa.ok hO' hn'.symm hx0 (fo := 1) (by decide) rfl
          refine iv_skip ho (by obtain rfl := Option.some.inj ho; rfl) (by obtain rfl := Option.some.inj ho; rfl) (W.setCell ⟨go, j * 2 + 1, none⟩ (.string x58)) ?_ (hB.store (by omega) ls ⟨_, hO2, by rw [List.length_set]; exact hn', ?_⟩) ⟨by simp, fun i h1 h2 => ?_⟩ trivial
          · intro q hq
            obtain rfl := Option.some.inj ho
            have e58 := hq.tmp 58
            have e62 := hq.tmp 62
            simp at e58 e62
            simp [execOp, e58, e62, d58, d62, go_sem, y0, g0]
          · intro x hx
            rcases List.mem_or_eq_of_mem_set hx with h | rfl
            · exact hOk' x h
            · exact ⟨hok0.1, p58⟩
          · exact Below.heap_setCell _ _ _ _ (by show i ≠ go; omega)
      intro f wz hB' hV
      unfold putsA
      simp only [List.mapIdx_toArray, List.mapIdx_cons, List.mapIdx_nil, List.contains_cons]
      simp
      clear hV HK hO9 hS9' hG9'
      obtain ⟨hSz, ⟨lz, hOz, hnz, hokz⟩, _, hGz⟩ := hB'
      have HF := Lib.hid (And.intro hOz (And.intro hokz (And.intro (hSz.mono (d := c + 6000) (by omega)) hGz)))
      have hlz : lz.length ≤ 5 := by omega
      clear hOz hSz hGz hokz
      go_wp2
      go_ret
      exact ⟨_, lz, rfl, HF.out.1, hlz, HF.out.2.1, HF.out.2.2.1, HF.out.2.2.2⟩
end Go.Proofs.YtihgnpobkpnipaaGreatDoor
