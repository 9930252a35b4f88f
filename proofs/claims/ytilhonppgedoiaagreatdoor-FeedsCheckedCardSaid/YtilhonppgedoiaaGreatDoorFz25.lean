/- Texts of the proof of a law, put together, part 25 of 46. Conditions: none beyond those that each theorem names. -/
import Derived.Test.YtilhonppgedoiaaGreatDoorFz5
import Derived.Test.YtilhonppgedoiaaGreatDoorFz8
import Derived.Test.YtilhonppgedoiaaGreatDoorFz12
import Derived.Test.YtilhonppgedoiaaGreatDoorFz23
import Derived.Test.YtilhonppgedoiaaGreatDoorFz24
namespace Go.Proofs.YtilhonppgedoiaaGreatDoor
open Go.RowKit Go.Sort
end Go.Proofs.YtilhonppgedoiaaGreatDoor
namespace Go.Proofs.YtilhonppgedoiaaGreatDoor
open Go.RowKit Go.Sort
/-- reels whose strings are short and whose numbers are small. -/
def RelOk (x : Rel) : Prop := x.1.size ≤ 5 ∧ x.2.1.size ≤ 5 ∧ -1099511627777 ≤ x.2.2 ∧ x.2.2 ≤ 1099511627777
set_option maxHeartbeats 8000000 in
set_option maxRecDepth 100000 in
theorem ReelList_any (s : Nat) (c : Int) (w : World) (h : Str w s c) (hc : c ≤ 900000) :
    Calls Tryz.prog 11 #[.pointer (some ⟨s, 0, none⟩)] w fun e w' => ∃ v l, e = .returned v ∧ OwnR TRe w' w.heap.size v l ∧ (l.length ≤ 4 ∧ 1 ≤ l.length) ∧ (∀ x ∈ l, RelOk x) ∧ Str w' s (c + 6000) ∧ w.grownBy w' (some s) := by
  have ls := h.lt
  have HNM : Hid (∀ (W : World), W.heap[w.heap.size]? = some (.cells #[.string ⟨#[114, 49]⟩, .string ⟨#[114, 50]⟩, .string ⟨#[114, 51]⟩, .string ⟨#[114, 52]⟩] 9 (0, 0)) → ∀ k : Nat, k < 4 → ∃ nm : ByteArray, W.cell? ⟨w.heap.size, k, none⟩ = some (.string nm) ∧ nm.size ≤ 5) := Lib.hid fun W hW k hk => by
    have hk' : k = 0 ∨ k = 1 ∨ k = 2 ∨ k = 3 := by omega
    rcases hk' with rfl | rfl | rfl | rfl
    · exact ⟨_, blk_cell hW 0, by decide⟩
    · exact ⟨_, blk_cell hW 1, by decide⟩
    · exact ⟨_, blk_cell hW 2, by decide⟩
    · exact ⟨_, blk_cell hW 3, by decide⟩
  go_enter Tryz.func11, Tryz.ntmps11
  go_wp2_with fail
  refine (Range_any s c 1 4 _ (h.alloc _) (by omega) (by omega) (by omega) (by omega) (by omega)).mono ?_
  rintro e w1 ⟨n, rfl, ⟨hn0, hn1, _⟩, hS1, hG1⟩
  have hn2 := hn1 (by omega)
  clear hn1
  obtain ⟨n, rfl⟩ := Int.eq_ofNat_of_zero_le (show 0 ≤ n by omega)
  have hL1 := Gr.blk hG1 (blk_new w _) (by omega)
  have hz1 := hG1.size
  simp at hz1
  have hG1' := Gr.trans (Gr.alloc (Gr.refl w (some s)) _) hG1
  clear hG1
  have j1 : (0 : Int) ≤ (n : Int) := by omega
  have j2 : ¬ 4 < n := by omega
  have j3 : n ≤ 4 := by omega
  go_wp2_with fail
  go_loopw [3, 12] (fun v i wr => ∃ (k : Nat) (l : List Rel), k ≤ n ∧ i = .int .i64 k ∧ OwnR TRe wr (w.heap.size + 1) v l ∧ Hid (l.length = k) ∧ (∀ x ∈ l, RelOk x) ∧ Str wr s (c + 1 + 200 * k) ∧ Hid (wr.heap[w.heap.size]? = some (.cells #[.string ⟨#[114, 49]⟩, .string ⟨#[114, 50]⟩, .string ⟨#[114, 51]⟩, .string ⟨#[114, 52]⟩] 9 (0, 0))) ∧ w.grownBy wr (some s) ∧ w.heap.size < wr.heap.size) (fun _ i _ => n - (intOf i).toNat)
  case atStart => exact ⟨0, [], Nat.zero_le _, rfl, OwnR.nil _ _, Lib.hid rfl, by simp, hS1.mono (by omega), Lib.hid hL1, hG1', by omega⟩
  case round =>
    obtain ⟨k, l, hk, rfl, hO, hl, hB, hS, HL, hG, hz0⟩ := hrel
    obtain ⟨oa, ocap, rfl, _, _⟩ := hO.form
    by_cases hlt : k < n
    · obtain ⟨nm, cn, hnm⟩ := HNM.out wr HL.out k (by omega)
      go_wp2_with fail
      refine (Some_any s _ [⟨#[97]⟩, ⟨#[97]⟩, ⟨#[98]⟩] _ _ (hS.alloc _) (by omega) (RecR.of_blk (T := TS) (blk_new _ _) rfl rfl (by simp) (by omega) hS.lt) (by simp) (by simp)).mono ?_
      rintro e w2 ⟨pt, rfl, hpt, hS2, hG2⟩
      have hpt5 : pt.size ≤ 5 := by have := List.all_eq_true.1 (show ([⟨#[97]⟩, ⟨#[97]⟩, ⟨#[98]⟩].all fun x : ByteArray => decide (x.size ≤ 5)) = true by decide) pt hpt; simpa using this
      have hO2 := (hO.alloc (.cells #[.string ⟨#[97]⟩, .string ⟨#[97]⟩, .string ⟨#[98]⟩] 9)).grown hG2 (show s < w.heap.size + 1 by omega)
      have hL2 := Gr.blk hG2 (blk_old HL.out _) (by omega)
      have hG2' := Gr.trans (Gr.alloc hG _) hG2
      have hz2 := hG2.size
      simp at hz2
      clear hO hG2 hS cn hpt HL
      go_wp2_with fail
      refine (Pick_any s _ [0, 3, 5, 10, 20] _ _ (hS2.alloc _) (by omega) (Ints.of_blk (blk_new _ _) rfl rfl (by simp) (by omega) hS2.lt) (by simp) (by simp)).mono ?_
      rintro e w3 ⟨mn, rfl, hmn, hS3, hG3⟩
      have hmn1 : 0 ≤ mn ∧ mn ≤ 20 := by simp only [List.mem_cons, List.not_mem_nil, or_false] at hmn; omega
      have hO3 := (hO2.alloc (.cells #[.int .i64 0, .int .i64 3, .int .i64 5, .int .i64 10, .int .i64 20] 3)).grown hG3 (show s < w.heap.size + 1 by omega)
      have hL3 := Gr.blk hG3 (blk_old hL2 _) (by omega)
      have hG3' := Gr.trans (Gr.alloc hG2' _) hG3
      have hz3 := hG3.size
      simp at hz3
      clear hO2 hG3 hS2 hmn hL2 hG2'
      have hwk : IntKind.i64.wrap ((k : Int) + 1) = ((k + 1 : Nat) : Int) := by rw [IntWalk.i64_in _ (by omega)]; omega
      have hll : l.length ≤ 1000000 := by rw [hl.out]; omega
      have HNEW : Hid (∀ x ∈ l ++ [((nm, pt, mn) : Rel)], RelOk x) := Lib.hid (by
        intro x hx
        rcases List.mem_append.1 hx with h | h
        · exact hB x h
        · rw [List.mem_singleton] at h
          subst h
          exact ⟨hnm, hpt5, by show -1099511627777 ≤ mn; omega, by show mn ≤ 1099511627777; omega⟩)
      go_wp2_with (at_builtin; refine wp_app_rec TRe.ok rfl _ _ rfl (w.heap.size + 1) _ l rfl (hO3.alloc _) w3.heap.size 1 (nm, pt, mn) rfl (blk_new' _ _ (by simp)) rfl hll (by simp; omega) ?_)
      intro v9 w9 hO9 hA9 hb9
      have hS9 := (hS3.alloc (.cells #[.string nm, .string pt, .int .i64 mn] 90)).belowB hb9 (show s < w.heap.size + 1 by omega)
      have hG9 := Gr.app (Gr.alloc hG3' (.cells #[.string nm, .string pt, .int .i64 mn] 90)) (hO3.alloc _) hA9 (show w.heap.size ≤ w.heap.size + 1 by omega)
      have hL9 := (hb9.block w.heap.size (by omega)).trans (blk_old hL3 (.cells #[.string nm, .string pt, .int .i64 mn] 90))
      have hz9 := hb9.size
      simp at hz9
      have HF := Lib.hid (And.intro hO9 (And.intro (hS9.mono (d := c + 1 + 200 * ((k + 1 : Nat) : Int)) (by omega)) (And.intro hG9 hL9)))
      clear hO9 hS9 hG9 hA9 hb9 hS3 hG3' hO3 hL3
      go_wp2
      go_roundw
      case rel => exact ⟨k + 1, l ++ [(nm, pt, mn)], by omega, by go_num, HF.out.1, Lib.hid (by rw [List.length_append, hl.out]; rfl), HNEW.out, HF.out.2.1, Lib.hid HF.out.2.2.2, HF.out.2.2.1, by omega⟩
      case measure => simp [intOf]; omega
    · obtain rfl : k = n := by omega
      replace hO := hO.base (show w.heap.size ≤ w.heap.size + 1 by omega)
      have hl24 : l.length ≤ 4 ∧ 1 ≤ l.length := by have := hl.out; omega
      have h0 : ¬ l.length = 0 := by have := hl.out; omega
      have hlpos : l ≠ [] := fun e => h0 (by rw [e]; rfl)
      obtain ⟨go, cap, cur, hoa, hgo, hgb, hcl, _⟩ := hO.blk hlpos
      injection hoa with hoa1 _ hoa2
      subst hoa1 hoa2
      clear hgb
      go_wp2_with fail
      refine (Flip_any s _ 20 wr hS (by omega) (by omega)).mono ?_
      rintro e w8 ⟨fl, rfl, hS8, hG8⟩
      have hO8 := hO.grown hG8 ls
      have hG8' := Gr.trans hG hG8
      clear hO hS hG8
      cases fl
      · have HF := Lib.hid (And.intro hO8 (And.intro (hS8.mono (d := c + 6000) (by omega)) hG8'))
        clear hO8 hS8 hG8'
        go_wp2
        go_ret
        exact ⟨_, l, rfl, HF.out.1, by omega, hB, HF.out.2.1, HF.out.2.2⟩
      · go_wp2_with fail
        refine (Next_any s _ l.length w8 hS8 (by omega) (by omega)).mono ?_
        rintro e w9 ⟨j, rfl, ⟨hj0, hj1, _⟩, hS9, hG9⟩
        have hj2 := hj1 (by omega)
        clear hj1
        obtain ⟨j, rfl⟩ := Int.eq_ofNat_of_zero_le hj0
        have hO9 := hO8.grown hG9 ls
        have hG9' := Gr.trans hG8' hG9
        have hgo9 : go < w9.heap.size := by
          have := (World.ownsRow.lt hO9 go rfl).2
          exact this
        have hjn : j < l.length := by omega
        have hS9' := hS9.mono (d := c + 5000 + 300) (by omega)
        clear hO8 hS8 hG8' hG9 hS9
        have HK : OwnK (fun W => ∃ l' : List Rel, OwnR TRe W w.heap.size (.slice (some ⟨go, 0, none⟩) l.length ocap) l' ∧ l'.length = l.length ∧ ∀ x ∈ l', RelOk x) s := ⟨fun W W' h hb => (by obtain ⟨l', h1, h2⟩ := h; exact ⟨l', h1.below hb, h2⟩), fun W W' h hg => (by obtain ⟨l', h1, h2⟩ := h; exact ⟨l', h1.grown hg ls, h2⟩)⟩
        go_wp2
        refine wp_region_inv (by kernel_rfl) [36, 37, 38, 39, 40, 41, 42, 43, 44, 45, 46, 47, 48, 49, 50, 51, 52, 53, 54, 55, 56, 57, 58, 59, 60] (RB (fun W => ∃ l' : List Rel, OwnR TRe W w.heap.size (.slice (some ⟨go, 0, none⟩) l.length ocap) l' ∧ l'.length = l.length ∧ ∀ x ∈ l', RelOk x) w s (w9.heap.size) (c + 5000 + 900)) (RR (w9.heap.size)) (fun i => [VE (.pointer (some ⟨go, j * 3, none⟩)), VE (.pointer (some ⟨go, j * 3, none⟩)), VE (.pointer (some ⟨go, j * 3, none⟩)), VE (.pointer (some ⟨s, 0, none⟩)), VE (.pointer (some ⟨go, j * 3, none⟩)), VE (.pointer (some ⟨go, j * 3, none⟩)), VE (.pointer (some ⟨go, j * 3, none⟩)), VS 5, VLS (w9.heap.size) 5 3, VS 5, VE (.pointer (some ⟨s, 0, none⟩)), VE (.pointer (some ⟨go, j * 3, none⟩)), VE (.pointer (some ⟨go, j * 3, none⟩)), VE (.pointer (some ⟨go, j * 3 + 1, none⟩)), VS 5, VLS (w9.heap.size) 5 2, VS 5, VE (.pointer (some ⟨s, 0, none⟩)), VI (-1099511627777) 1099511627777, VE (.pointer (some ⟨go, j * 3, none⟩)), VE (.pointer (some ⟨go, j * 3, none⟩)), VT, VE (.pointer (some ⟨go, j * 3, none⟩)), VE (.pointer (some ⟨go, j * 3 + 1, none⟩)), VT, VE (.pointer (some ⟨go, j * 3, none⟩)), VE (.pointer (some ⟨go, j * 3 + 2, none⟩)), VT].getD i VT) (by kernel_rfl) (by kernel_rfl) (fun u u' W hu h => h.mono hu) ?_ ?_ ?_ ?_ ?_
        · exact ⟨(hS9'.drew).mono (by show _ ≤ (c + 5000 + 900) - 10 * ((28 : Nat) : Int); omega), ⟨l, hO9, rfl, hB⟩, Nat.le_refl _, ⟨hG9'.os, hG9'.tape, hG9'.output, hG9'.size, hG9'.block⟩⟩
        · intro u W W' i v hB hR hV
          exact match i, hV with
            | 0, h => h
            | 1, h => h
            | 2, h => h
            | 3, h => h
            | 4, h => h
            | 5, h => h
            | 6, h => h
            | 7, h => h
            | 8, h => VLS.stab h hR
            | 9, h => h
            | 10, h => h
            | 11, h => h
            | 12, h => h
            | 13, h => h
            | 14, h => h
            | 15, h => VLS.stab h hR
            | 16, h => h
            | 17, h => h
            | 18, h => h
            | 19, h => h
            | 20, h => h
            | 21, h => h
            | 22, h => h
            | 23, h => h
            | 24, h => h
            | 25, h => h
            | 26, h => h
            | 27, h => h
            | (_ + 28), _ => trivial
        · intro i o v W ho hd
          match i, ho with
            | 0, ho => (obtain rfl := Option.some.inj ho; cases hd)
            | 1, ho => (obtain rfl := Option.some.inj ho; cases hd)
            | 2, ho => (obtain rfl := Option.some.inj ho; cases hd)
            | 3, ho => (obtain rfl := Option.some.inj ho; cases hd)
            | 4, ho => (obtain rfl := Option.some.inj ho; cases hd)
            | 5, ho => (obtain rfl := Option.some.inj ho; cases hd)
            | 6, ho => (obtain rfl := Option.some.inj ho; cases hd)
            | 7, ho => (obtain rfl := Option.some.inj ho; cases hd)
            | 8, ho => (obtain rfl := Option.some.inj ho; cases hd)
            | 9, ho => (obtain rfl := Option.some.inj ho; cases hd)
            | 10, ho => (obtain rfl := Option.some.inj ho; cases hd)
            | 11, ho => (obtain rfl := Option.some.inj ho; cases hd)
            | 12, ho => (obtain rfl := Option.some.inj ho; cases hd)
            | 13, ho => (obtain rfl := Option.some.inj ho; cases hd)
            | 14, ho => (obtain rfl := Option.some.inj ho; cases hd)
            | 15, ho => (obtain rfl := Option.some.inj ho; cases hd)
            | 16, ho => (obtain rfl := Option.some.inj ho; cases hd)
            | 17, ho => (obtain rfl := Option.some.inj ho; cases hd)
            | 18, ho => (obtain rfl := Option.some.inj ho; cases hd)
            | 19, ho => (obtain rfl := Option.some.inj ho; cases hd)
            | 20, ho => (obtain rfl := Option.some.inj ho; cases hd)
            | 21, ho => trivial
            | 22, ho => (obtain rfl := Option.some.inj ho; cases hd)
            | 23, ho => (obtain rfl := Option.some.inj ho; cases hd)
            | 24, ho => trivial
            | 25, ho => (obtain rfl := Option.some.inj ho; cases hd)
            | 26, ho => (obtain rfl := Option.some.inj ho; cases hd)
            | 27, ho => trivial
            | (_ + 28), _ => trivial
        · intro i o u f W ho hi hB hdep
          have hi' : i = 0 ∨ i = 1 ∨ i = 2 ∨ i = 3 ∨ i = 4 ∨ i = 5 ∨ i = 6 ∨ i = 7 ∨ i = 8 ∨ i = 9 ∨ i = 10 ∨ i = 11 ∨ i = 12 ∨ i = 13 ∨ i = 14 ∨ i = 15 ∨ i = 16 ∨ i = 17 ∨ i = 18 ∨ i = 19 ∨ i = 20 ∨ i = 21 ∨ i = 22 ∨ i = 23 ∨ i = 24 ∨ i = 25 ∨ i = 26 ∨ i = 27 := by
            have : i < 28 := hi
            omega
          rcases hi' with rfl | rfl | rfl | rfl | rfl | rfl | rfl | rfl | rfl | rfl | rfl | rfl | rfl | rfl | rfl | rfl | rfl | rfl | rfl | rfl | rfl | rfl | rfl | rfl | rfl | rfl | rfl | rfl
          · refine iv_val ho (by obtain rfl := Option.some.inj ho; rfl) (.pointer (some ⟨go, j * 3, none⟩)) W ?_ (hB.below HK (Below.refl _ _)) (RR.refl _ _) rfl
            · intro q hq
              obtain rfl := Option.some.inj ho
              have e6 := hq.tmp 6
              simp at e6
              simp [execOp, e6, go_sem]
          · refine iv_val ho (by obtain rfl := Option.some.inj ho; rfl) (.pointer (some ⟨go, j * 3, none⟩)) W ?_ (hB.below HK (Below.refl _ _)) (RR.refl _ _) rfl
            · intro q hq
              obtain rfl := Option.some.inj ho
              have e6 := hq.tmp 6
              simp at e6
              simp [execOp, e6, go_sem]
          · refine iv_val ho (by obtain rfl := Option.some.inj ho; rfl) (.pointer (some ⟨go, j * 3, none⟩)) W ?_ (hB.below HK (Below.refl _ _)) (RR.refl _ _) rfl
            · intro q hq
              obtain rfl := Option.some.inj ho
              have e6 := hq.tmp 6
              simp at e6
              simp [execOp, e6, go_sem]
          · refine iv_val ho (by obtain rfl := Option.some.inj ho; rfl) (.pointer (some ⟨s, 0, none⟩)) W ?_ (hB.below HK (Below.refl _ _)) (RR.refl _ _) rfl
            · intro q hq
              obtain rfl := Option.some.inj ho
              have e0 := hq.tmp 0
              simp at e0
              simp [execOp, e0, go_sem]
          · refine iv_val ho (by obtain rfl := Option.some.inj ho; rfl) (.pointer (some ⟨go, j * 3, none⟩)) W ?_ (hB.below HK (Below.refl _ _)) (RR.refl _ _) rfl
            · intro q hq
              obtain rfl := Option.some.inj ho
              have e6 := hq.tmp 6
              simp at e6
              simp [execOp, e6, go_sem]
          · have d40 : f 40 = .pointer (some ⟨go, j * 3, none⟩) := hdep ⟨4, .data⟩ (by obtain rfl := Option.some.inj ho; simp) rfl
            refine iv_val ho (by obtain rfl := Option.some.inj ho; rfl) (.pointer (some ⟨go, j * 3, none⟩)) W ?_ (hB.below HK (Below.refl _ _)) (RR.refl _ _) rfl
            · intro q hq
              obtain rfl := Option.some.inj ho
              have e40 := hq.tmp 40
              simp at e40
              simp [execOp, e40, d40, go_sem]
          · have d41 : f 41 = .pointer (some ⟨go, j * 3, none⟩) := hdep ⟨5, .data⟩ (by obtain rfl := Option.some.inj ho; simp) rfl
            refine iv_val ho (by obtain rfl := Option.some.inj ho; rfl) (.pointer (some ⟨go, j * 3, none⟩)) W ?_ (hB.below HK (Below.refl _ _)) (RR.refl _ _) rfl
            · intro q hq
              obtain rfl := Option.some.inj ho
              have e41 := hq.tmp 41
              simp at e41
              simp [execOp, e41, d41, go_sem]
          · have d42 : f 42 = .pointer (some ⟨go, j * 3, none⟩) := hdep ⟨6, .data⟩ (by obtain rfl := Option.some.inj ho; simp) rfl
            obtain ⟨l', hO', hn', hOk'⟩ := hB.own
            obtain ⟨x0, hx0⟩ : ∃ x, l'[j]? = some x := ⟨_, List.getElem?_eq_getElem (by omega)⟩
            have hok0 := hOk' _ (List.mem_of_getElem? hx0)
            have y0 : W.cell? ⟨go, j * 3, none⟩ = some (.string x0.1) := (OwnR.cellf TRe.ok hO' hn'.symm hx0 (fo := 0) rfl).1
            refine iv_val ho (by obtain rfl := Option.some.inj ho; rfl) (.string x0.1) W ?_ (hB.below HK (Below.refl _ _)) (RR.refl _ _) ⟨_, rfl, hok0.1⟩
            · intro q hq
              obtain rfl := Option.some.inj ho
              have e42 := hq.tmp 42
              simp at e42
              simp [execOp, e42, d42, go_sem, y0]
          · obtain ⟨x43, d43, p43⟩ : VS 5 (f 43) W := hdep ⟨7, .data⟩ (by obtain rfl := Option.some.inj ho; simp) rfl
            refine iv_val ho (by obtain rfl := Option.some.inj ho; rfl) (.slice (some ⟨W.heap.size, 0, none⟩) 3 3) (W.alloc (.cells #[.string x43, .string (⟨#[]⟩ : ByteArray), .string (⟨#[114, 49]⟩ : ByteArray)] 9)) ?_ (hB.below HK (Bl.alloc (Below.refl _ _) _)) (RR.of_below (Bl.alloc (Below.refl _ _) _)) ⟨[x43, (⟨#[]⟩ : ByteArray), (⟨#[114, 49]⟩ : ByteArray)], ⟨_, rfl⟩, rfl, RecR.of_blk (T := TS) (blk_new _ _) rfl rfl (by simp) (by omega) hB.size, ?_⟩
            · intro q hq
              obtain rfl := Option.some.inj ho
              have e43 := hq.tmp 43
              simp at e43
              simp [execOp, hq.const, e43, d43, go_sem]
            · intro x hx
              simp only [List.mem_cons, List.not_mem_nil, or_false] at hx
              rcases hx with rfl | rfl | rfl
              all_goals (first | assumption | (show _ ≤ 5; decide))
          · have d39 : f 39 = .pointer (some ⟨s, 0, none⟩) := hdep ⟨3, .data⟩ (by obtain rfl := Option.some.inj ho; simp) rfl
            obtain ⟨li, ⟨bi, d44⟩, hli, hri, hbi⟩ : VLS (w9.heap.size) 5 3 (f 44) W := hdep ⟨8, .data⟩ (by obtain rfl := Option.some.inj ho; simp) rfl
            refine iv_call ho (by obtain rfl := Option.some.inj ho; rfl) 41 #[.tmp 39, .tmp 44] _ (by obtain rfl := Option.some.inj ho; rfl) (enters_of Tryz.func41 (by kernel_rfl) rfl) #[.pointer (some ⟨s, 0, none⟩), f 44] (by intro q hq; have e39 := hq.tmp 39; simp at e39; have e44 := hq.tmp 44; simp at e44; simp [e39, e44, d39]) _ (Some_any s _ li (f 44) W hB.str (by omega) (Rd.mono hri (by omega)) (by omega) (by omega)) ?_
            rintro e W' ⟨r, rfl, hr, hs', hg'⟩
            exact ⟨_, rfl, hB.call HK hs' (by omega) hg', RR.of_gr hg' (by omega), ⟨r, rfl, hbi r hr⟩⟩
          · refine iv_val ho (by obtain rfl := Option.some.inj ho; rfl) (.pointer (some ⟨s, 0, none⟩)) W ?_ (hB.below HK (Below.refl _ _)) (RR.refl _ _) rfl
            · intro q hq
              obtain rfl := Option.some.inj ho
              have e0 := hq.tmp 0
              simp at e0
              simp [execOp, e0, go_sem]
          · refine iv_val ho (by obtain rfl := Option.some.inj ho; rfl) (.pointer (some ⟨go, j * 3, none⟩)) W ?_ (hB.below HK (Below.refl _ _)) (RR.refl _ _) rfl
            · intro q hq
              obtain rfl := Option.some.inj ho
              have e6 := hq.tmp 6
              simp at e6
              simp [execOp, e6, go_sem]
          · have d47 : f 47 = .pointer (some ⟨go, j * 3, none⟩) := hdep ⟨11, .data⟩ (by obtain rfl := Option.some.inj ho; simp) rfl
            refine iv_val ho (by obtain rfl := Option.some.inj ho; rfl) (.pointer (some ⟨go, j * 3, none⟩)) W ?_ (hB.below HK (Below.refl _ _)) (RR.refl _ _) rfl
            · intro q hq
              obtain rfl := Option.some.inj ho
              have e47 := hq.tmp 47
              simp at e47
              simp [execOp, e47, d47, go_sem]
          · have d48 : f 48 = .pointer (some ⟨go, j * 3, none⟩) := hdep ⟨12, .data⟩ (by obtain rfl := Option.some.inj ho; simp) rfl
            refine iv_val ho (by obtain rfl := Option.some.inj ho; rfl) (.pointer (some ⟨go, j * 3 + 1, none⟩)) W ?_ (hB.below HK (Below.refl _ _)) (RR.refl _ _) rfl
            · intro q hq
              obtain rfl := Option.some.inj ho
              have e48 := hq.tmp 48
              simp at e48
              simp [execOp, e48, d48, go_sem]
          · have d49 : f 49 = .pointer (some ⟨go, j * 3 + 1, none⟩) := hdep ⟨13, .data⟩ (by obtain rfl := Option.some.inj ho; simp) rfl
            obtain ⟨l', hO', hn', hOk'⟩ := hB.own
            obtain ⟨x0, hx0⟩ : ∃ x, l'[j]? = some x := ⟨_, List.getElem?_eq_getElem (by omega)⟩
            have hok0 := hOk' _ (List.mem_of_getElem? hx0)
            have y0 : W.cell? ⟨go, j * 3 + 1, none⟩ = some (.string x0.2.1) := (OwnR.cellf TRe.ok hO' hn'.symm hx0 (fo := 1) rfl).1
            refine iv_val ho (by obtain rfl := Option.some.inj ho; rfl) (.string x0.2.1) W ?_ (hB.below HK (Below.refl _ _)) (RR.refl _ _) ⟨_, rfl, hok0.2.1⟩
            · intro q hq
              obtain rfl := Option.some.inj ho
              have e49 := hq.tmp 49
              simp at e49
              simp [execOp, e49, d49, go_sem, y0]
          · obtain ⟨x50, d50, p50⟩ : VS 5 (f 50) W := hdep ⟨14, .data⟩ (by obtain rfl := Option.some.inj ho; simp) rfl
            refine iv_val ho (by obtain rfl := Option.some.inj ho; rfl) (.slice (some ⟨W.heap.size, 0, none⟩) 2 2) (W.alloc (.cells #[.string x50, .string (⟨#[]⟩ : ByteArray)] 9)) ?_ (hB.below HK (Bl.alloc (Below.refl _ _) _)) (RR.of_below (Bl.alloc (Below.refl _ _) _)) ⟨[x50, (⟨#[]⟩ : ByteArray)], ⟨_, rfl⟩, rfl, RecR.of_blk (T := TS) (blk_new _ _) rfl rfl (by simp) (by omega) hB.size, ?_⟩
            · intro q hq
              obtain rfl := Option.some.inj ho
              have e50 := hq.tmp 50
              simp at e50
              simp [execOp, hq.const, e50, d50, go_sem]
            · intro x hx
              simp only [List.mem_cons, List.not_mem_nil, or_false] at hx
              rcases hx with rfl | rfl
              all_goals (first | assumption | (show _ ≤ 5; decide))
          · have d46 : f 46 = .pointer (some ⟨s, 0, none⟩) := hdep ⟨10, .data⟩ (by obtain rfl := Option.some.inj ho; simp) rfl
            obtain ⟨li, ⟨bi, d51⟩, hli, hri, hbi⟩ : VLS (w9.heap.size) 5 2 (f 51) W := hdep ⟨15, .data⟩ (by obtain rfl := Option.some.inj ho; simp) rfl
            refine iv_call ho (by obtain rfl := Option.some.inj ho; rfl) 41 #[.tmp 46, .tmp 51] _ (by obtain rfl := Option.some.inj ho; rfl) (enters_of Tryz.func41 (by kernel_rfl) rfl) #[.pointer (some ⟨s, 0, none⟩), f 51] (by intro q hq; have e46 := hq.tmp 46; simp at e46; have e51 := hq.tmp 51; simp at e51; simp [e46, e51, d46]) _ (Some_any s _ li (f 51) W hB.str (by omega) (Rd.mono hri (by omega)) (by omega) (by omega)) ?_
            rintro e W' ⟨r, rfl, hr, hs', hg'⟩
            exact ⟨_, rfl, hB.call HK hs' (by omega) hg', RR.of_gr hg' (by omega), ⟨r, rfl, hbi r hr⟩⟩
          · refine iv_val ho (by obtain rfl := Option.some.inj ho; rfl) (.pointer (some ⟨s, 0, none⟩)) W ?_ (hB.below HK (Below.refl _ _)) (RR.refl _ _) rfl
            · intro q hq
              obtain rfl := Option.some.inj ho
              have e0 := hq.tmp 0
              simp at e0
              simp [execOp, e0, go_sem]
          · have d53 : f 53 = .pointer (some ⟨s, 0, none⟩) := hdep ⟨17, .data⟩ (by obtain rfl := Option.some.inj ho; simp) rfl
            refine iv_call ho (by obtain rfl := Option.some.inj ho; rfl) 44 #[.tmp 53, .const (.int .i64 (0)), .const (.int .i64 (100000))] _ (by obtain rfl := Option.some.inj ho; rfl) (enters_of Tryz.func44 (by kernel_rfl) rfl) #[.pointer (some ⟨s, 0, none⟩), .int .i64 (0), .int .i64 (100000)] (by intro q hq; have e53 := hq.tmp 53; simp at e53; simp [hq.const, e53, d53]) _ (Odd_any s _ (0) (100000) W hB.str (by omega) (by omega) (by omega) (by omega)) ?_
            rintro e W' ⟨r, rfl, hr, hs', hg'⟩
            exact ⟨_, rfl, hB.call HK hs' (by omega) hg', RR.of_gr hg' (by omega), ⟨r, rfl, by omega, by omega⟩⟩
          · have d36 : f 36 = .pointer (some ⟨go, j * 3, none⟩) := hdep ⟨0, .data⟩ (by obtain rfl := Option.some.inj ho; simp) rfl
            refine iv_val ho (by obtain rfl := Option.some.inj ho; rfl) (.pointer (some ⟨go, j * 3, none⟩)) W ?_ (hB.below HK (Below.refl _ _)) (RR.refl _ _) rfl
            · intro q hq
              obtain rfl := Option.some.inj ho
              have e36 := hq.tmp 36
              simp at e36
              simp [execOp, e36, d36, go_sem]
          · have d55 : f 55 = .pointer (some ⟨go, j * 3, none⟩) := hdep ⟨19, .data⟩ (by obtain rfl := Option.some.inj ho; simp) rfl
            refine iv_val ho (by obtain rfl := Option.some.inj ho; rfl) (.pointer (some ⟨go, j * 3, none⟩)) W ?_ (hB.below HK (Below.refl _ _)) (RR.refl _ _) rfl
            · intro q hq
              obtain rfl := Option.some.inj ho
              have e55 := hq.tmp 55
              simp at e55
              simp [execOp, e55, d55, go_sem]
          · have d56 : f 56 = .pointer (some ⟨go, j * 3, none⟩) := hdep ⟨20, .data⟩ (by obtain rfl := Option.some.inj ho; simp) rfl
            obtain ⟨x45, d45, p45⟩ : VS 5 (f 45) W := hdep ⟨9, .data⟩ (by obtain rfl := Option.some.inj ho; simp) rfl
            obtain ⟨l', hO', hn', hOk'⟩ := hB.own
            obtain ⟨x0, hx0⟩ : ∃ x, l'[j]? = some x := ⟨_, List.getElem?_eq_getElem (by omega)⟩
            have hok0 := hOk' _ (List.mem_of_getElem? hx0)
            obtain ⟨y0, g0⟩ := OwnR.cellf TRe.ok hO' hn'.symm hx0 (fo := 0) rfl
            replace y0 : W.cell? ⟨go, j * 3, none⟩ = some (.string x0.1) := y0
            replace g0 : W.frozen? ⟨go, j * 3, none⟩ = false := g0
            have hO2 : OwnR TRe (W.setCell ⟨go, j * 3, none⟩ (.string x45)) w.heap.size (.slice (some ⟨go, 0, none⟩) l.length ocap) (l'.set j ((x45, x0.2))) := OwnR.setf TRe.ok hO' hn'.symm hx0 (fo := 0) (by decide) rfl
            refine iv_skip ho (by obtain rfl := Option.some.inj ho; rfl) (by obtain rfl := Option.some.inj ho; rfl) (W.setCell ⟨go, j * 3, none⟩ (.string x45)) ?_ (hB.store (by omega) ls ⟨_, hO2, by rw [List.length_set]; exact hn', ?_⟩) ⟨by simp, fun i h1 h2 => ?_⟩ trivial
            · intro q hq
              obtain rfl := Option.some.inj ho
              have e45 := hq.tmp 45
              have e56 := hq.tmp 56
              simp at e45 e56
              simp [execOp, e45, e56, d45, d56, go_sem, y0, g0]
            · intro x hx
              rcases List.mem_or_eq_of_mem_set hx with h | rfl
              · exact hOk' x h
              · exact ⟨p45, hok0.2⟩
            · exact Below.heap_setCell _ _ _ _ (by show i ≠ go; omega)
          · have d37 : f 37 = .pointer (some ⟨go, j * 3, none⟩) := hdep ⟨1, .data⟩ (by obtain rfl := Option.some.inj ho; simp) rfl
            refine iv_val ho (by obtain rfl := Option.some.inj ho; rfl) (.pointer (some ⟨go, j * 3, none⟩)) W ?_ (hB.below HK (Below.refl _ _)) (RR.refl _ _) rfl
            · intro q hq
              obtain rfl := Option.some.inj ho
              have e37 := hq.tmp 37
              simp at e37
              simp [execOp, e37, d37, go_sem]
          · have d57 : f 57 = .pointer (some ⟨go, j * 3, none⟩) := hdep ⟨22, .data⟩ (by obtain rfl := Option.some.inj ho; simp) rfl
            refine iv_val ho (by obtain rfl := Option.some.inj ho; rfl) (.pointer (some ⟨go, j * 3 + 1, none⟩)) W ?_ (hB.below HK (Below.refl _ _)) (RR.refl _ _) rfl
            · intro q hq
              obtain rfl := Option.some.inj ho
              have e57 := hq.tmp 57
              simp at e57
              simp [execOp, e57, d57, go_sem]
          · have d58 : f 58 = .pointer (some ⟨go, j * 3 + 1, none⟩) := hdep ⟨23, .data⟩ (by obtain rfl := Option.some.inj ho; simp) rfl
            obtain ⟨x52, d52, p52⟩ : VS 5 (f 52) W := hdep ⟨16, .data⟩ (by obtain rfl := Option.some.inj ho; simp) rfl
            obtain ⟨l', hO', hn', hOk'⟩ := hB.own
            obtain ⟨x0, hx0⟩ : ∃ x, l'[j]? = some x := ⟨_, List.getElem?_eq_getElem (by omega)⟩
            have hok0 := hOk' _ (List.mem_of_getElem? hx0)
            obtain ⟨y0, g0⟩ := OwnR.cellf TRe.ok hO' hn'.symm hx0 (fo := 1) rfl
            replace y0 : W.cell? ⟨go, j * 3 + 1, none⟩ = some (.string x0.2.1) := y0
            replace g0 : W.frozen? ⟨go, j * 3 + 1, none⟩ = false := g0
            have hO2 : OwnR TRe (W.setCell ⟨go, j * 3 + 1, none⟩ (.string x52)) w.heap.size (.slice (some ⟨go, 0, none⟩) l.length ocap) (l'.set j ((x0.1, x52, x0.2.2))) := OwnR.setf TRe.ok hO' hn'.symm hx0 (fo := 1) (by decide) rfl
            refine iv_skip ho (by obtain rfl := Option.some.inj ho; rfl) (by obtain rfl := Option.some.inj ho; rfl) (W.setCell ⟨go, j * 3 + 1, none⟩ (.string x52)) ?_ (hB.store (by omega) ls ⟨_, hO2, by rw [List.length_set]; exact hn', ?_⟩) ⟨by simp, fun i h1 h2 => ?_⟩ trivial
            · intro q hq
              obtain rfl := Option.some.inj ho
              have e52 := hq.tmp 52
              have e58 := hq.tmp 58
              simp at e52 e58
              simp [execOp, e52, e58, d52, d58, go_sem, y0, g0]
            · intro x hx
              rcases List.mem_or_eq_of_mem_set hx with h | rfl
              · exact hOk' x h
              · exact ⟨hok0.1, p52, hok0.2.2⟩
            · exact Below.heap_setCell _ _ _ _ (by show i ≠ go; omega)
          · have d38 : f 38 = .pointer (some ⟨go, j * 3, none⟩) := hdep ⟨2, .data⟩ (by obtain rfl := Option.some.inj ho; simp) rfl
            refine iv_val ho (by obtain rfl := Option.some.inj ho; rfl) (.pointer (some ⟨go, j * 3, none⟩)) W ?_ (hB.below HK (Below.refl _ _)) (RR.refl _ _) rfl
            · intro q hq
              obtain rfl := Option.some.inj ho
              have e38 := hq.tmp 38
              simp at e38
              simp [execOp, e38, d38, go_sem]
          · have d59 : f 59 = .pointer (some ⟨go, j * 3, none⟩) := hdep ⟨25, .data⟩ (by obtain rfl := Option.some.inj ho; simp) rfl
            refine iv_val ho (by obtain rfl := Option.some.inj ho; rfl) (.pointer (some ⟨go, j * 3 + 2, none⟩)) W ?_ (hB.below HK (Below.refl _ _)) (RR.refl _ _) rfl
            · intro q hq
              obtain rfl := Option.some.inj ho
              have e59 := hq.tmp 59
              simp at e59
              simp [execOp, e59, d59, go_sem]
          · have d60 : f 60 = .pointer (some ⟨go, j * 3 + 2, none⟩) := hdep ⟨26, .data⟩ (by obtain rfl := Option.some.inj ho; simp) rfl
            obtain ⟨x54, d54, p54, r54⟩ : VI (-1099511627777) 1099511627777 (f 54) W := hdep ⟨18, .data⟩ (by obtain rfl := Option.some.inj ho; simp) rfl
            obtain ⟨l', hO', hn', hOk'⟩ := hB.own
            obtain ⟨x0, hx0⟩ : ∃ x, l'[j]? = some x := ⟨_, List.getElem?_eq_getElem (by omega)⟩
            have hok0 := hOk' _ (List.mem_of_getElem? hx0)
            obtain ⟨y0, g0⟩ := OwnR.cellf TRe.ok hO' hn'.symm hx0 (fo := 2) rfl
            replace y0 : W.cell? ⟨go, j * 3 + 2, none⟩ = some (.int .i64 x0.2.2) := y0
            replace g0 : W.frozen? ⟨go, j * 3 + 2, none⟩ = false := g0
            have hO2 : OwnR TRe (W.setCell ⟨go, j * 3 + 2, none⟩ (.int .i64 x54)) w.heap.size (.slice (some ⟨go, 0, none⟩) l.length ocap) (l'.set j ((x0.1, x0.2.1, x54))) := OwnR.setf TRe.ok hO' hn'.symm hx0 (fo := 2) (by decide) rfl
            refine iv_skip ho (by obtain rfl := Option.some.inj ho; rfl) (by obtain rfl := Option.some.inj ho; rfl) (W.setCell ⟨go, j * 3 + 2, none⟩ (.int .i64 x54)) ?_ (hB.store (by omega) ls ⟨_, hO2, by rw [List.length_set]; exact hn', ?_⟩) ⟨by simp, fun i h1 h2 => ?_⟩ trivial
            · intro q hq
              obtain rfl := Option.some.inj ho
              have e54 := hq.tmp 54
              have e60 := hq.tmp 60
              simp at e54 e60
              simp [execOp, e54, e60, d54, d60, go_sem, y0, g0]
            · intro x hx
              rcases List.mem_or_eq_of_mem_set hx with h | rfl
              · exact hOk' x h
              · exact ⟨hok0.1, hok0.2.1, p54, r54⟩
            · exact Below.heap_setCell _ _ _ _ (by show i ≠ go; omega)
        intro f wz hB' hV
        unfold putsA
        simp only [List.mapIdx_toArray, List.mapIdx_cons, List.mapIdx_nil, List.contains_cons]
        simp
        clear hV HK hO9 hS9' hG9'
        obtain ⟨hSz, ⟨lz, hOz, hnz, hokz⟩, _, hGz⟩ := hB'
        have HF := Lib.hid (And.intro hOz (And.intro hokz (And.intro (hSz.mono (d := c + 6000) (by omega)) hGz)))
        have hlz : lz.length ≤ 4 ∧ 1 ≤ lz.length := by omega
        clear hOz hSz hGz hokz
        go_wp2
        go_ret
        exact ⟨_, lz, rfl, HF.out.1, hlz, HF.out.2.1, HF.out.2.2.1, HF.out.2.2.2⟩
end Go.Proofs.YtilhonppgedoiaaGreatDoor
namespace Go.Proofs.YtilhonppgedoiaaGreatDoor
open Go.RowKit Go.Sort
/-! strings of a kind -/
def VSP (P : ByteArray → Prop) : Value → World → Prop := fun v _ => ∃ s : ByteArray, v = .string s ∧ P s
def VLSP (B1 : Nat) (P : ByteArray → Prop) (k : Nat) : Value → World → Prop := fun v w => ∃ l : List ByteArray, (∃ b, v = .slice (some ⟨b, 0, none⟩) k k) ∧ l.length = k ∧ RecR TS w B1 v l ∧ ∀ x ∈ l, P x
theorem VLSP.stab {B1 k : Nat} {P : ByteArray → Prop} {v : Value} {w w' : World} (h : VLSP B1 P k v w) (hr : RR B1 w w') : VLSP B1 P k v w' := by
  obtain ⟨l, h1, h2, h3, h4⟩ := h
  exact ⟨l, h1, h2, Rd.keep h3 hr.2 hr.1, h4⟩
theorem RelOk.z {l : List Rel} (h : ∀ x ∈ l, RelOk x) : RelZ l := fun x hx => ⟨Nat.le_trans (h x hx).1 (by omega), Nat.le_trans (h x hx).2.1 (by omega)⟩
theorem FedOk.z {l : List Fed} (h : ∀ x ∈ l, FedOk x) : FedZ l := fun x hx => ⟨Nat.le_trans (h x hx).2.2.1 (by omega), Nat.le_trans (h x hx).2.2.2.1 (by omega), Nat.le_trans (h x hx).2.2.2.2.2.size (by omega)⟩
theorem ba_extF {a b : ByteArray} (h : a.toList = b.toList) : a = b := by
  rw [ByteArray.toList_eq, ByteArray.toList_eq] at h
  cases a; cases b
  simp only at h
  congr 1
  exact Array.toList_inj.1 h
theorem empty_list : ByteArray.empty.toList = [] := by rw [ByteArray.toList_eq]; rfl
set_option maxHeartbeats 16000000 in
set_option maxRecDepth 100000 in
theorem FeedList_any (s : Nat) (c : Int) (w : World) (B : Nat) (vr : Value) (rs : List Rel) (h : Str w s c) (hc : c ≤ 900000) (hr : OwnR TRe w B vr rs) (hsB : s < B) (hln : rs.length ≤ 1000) (hok : ∀ x ∈ rs, RelOk x) :
    Calls Tryz.prog 12 #[.pointer (some ⟨s, 0, none⟩), vr] w fun e w' => ∃ v l, e = .returned v ∧ OwnR TFe w' w.heap.size v l ∧ l.length ≤ 15 ∧ (∀ x ∈ l, FedOk x) ∧ Str w' s (c + 6000) ∧ w.grownBy w' (some s) := by
  have ls := h.lt
  obtain ⟨ra, rc, rfl, _, _⟩ := hr.form
  obtain ⟨m, hm⟩ : ∃ m, m = rs.length := ⟨_, rfl⟩
  have HRA : Hid (0 < m → ∃ rb ro, ra = some ⟨rb, ro, none⟩) := Lib.hid fun h0 => by
    obtain ⟨x0, hx0⟩ : ∃ z, rs[0]? = some z := ⟨_, List.getElem?_eq_getElem (by omega)⟩
    obtain ⟨rb, ro, hae, _, _, _⟩ := hr.rec0.at TRe.ok.len hx0 TRe.ok.pos
    exact ⟨rb, ro, hae⟩
  have HRC : Hid (∀ rb ro, ra = some ⟨rb, ro, none⟩ → ∀ W, w.grownBy W (some s) → ∀ j : Nat, j < m → ∃ nm : ByteArray, W.cell? ⟨rb, ro + j * 3, none⟩ = some (.string nm) ∧ nm.size ≤ 5) := Lib.hid fun rb ro ha W hG j hj => by
    subst ha
    obtain ⟨x, hx⟩ : ∃ z, rs[j]? = some z := ⟨_, List.getElem?_eq_getElem (by omega)⟩
    obtain ⟨b1, o1, hae, _, _, hc1⟩ := (hr.grown hG hsB).rec0.at TRe.ok.len hx TRe.ok.pos
    injection hae with hae
    injection hae with e1 e2 _
    subst e1 e2
    exact ⟨x.1, hc1 0 _ rfl, (hok x (List.mem_of_getElem? hx)).1⟩
  rw [← hm] at hln ⊢
  clear hr hsB hok hm
  go_enter Tryz.func12, Tryz.ntmps12
  go_upto_if 11 with fail
  go_cut [6] from 11 to 19 (fun v6 wx => ∃ l0 : List Fed, Hid (OwnR TFe wx w.heap.size v6 l0 ∧ l0.length ≤ 1 ∧ (∀ x ∈ l0, FedOk x) ∧ Str wx s c ∧ w.grownBy wx (some s)))
  case first =>
    by_cases h0 : 0 < m
    · have hmp : (0 : Int) < (m : Int) := by omega
      obtain ⟨rb, ro, rfl⟩ := HRA.out h0
      obtain ⟨r0, c0, hr0⟩ := HRC.out rb ro rfl w (Gr.refl _ _) 0 h0
      rw [Nat.zero_mul, Nat.add_zero] at c0
      go_wp2_with (at_builtin; refine wp_app_rec TFe.ok rfl _ _ rfl w.heap.size _ [] rfl (OwnR.nil _ _) w.heap.size 1 (0, 1, ⟨#[102, 49]⟩, r0, 0, ByteArray.empty) rfl (blk_new _ _) rfl (by simp) (by simp) ?_)
      intro v1 w1 hO1 hA1 hb1
      have hS1 := (h.alloc (.cells #[.int .i64 0, .int .i64 1, .string ⟨#[102, 49]⟩, .string r0, .int .i64 0, .string ByteArray.empty] 37)).belowB hb1 ls
      have hG1 := Gr.app (Gr.alloc (Gr.refl w (some s)) (.cells #[.int .i64 0, .int .i64 1, .string ⟨#[102, 49]⟩, .string r0, .int .i64 0, .string ByteArray.empty] 37)) (OwnR.nil (T := TFe) _ w.heap.size) hA1 (Nat.le_refl _)
      have hok1 : FedOk (0, 1, ⟨#[102, 49]⟩, r0, 0, ByteArray.empty) := fedOk_mk (by decide) (by decide) hr0 (by decide) bdOk_nil
      have HREL := Lib.hid (show OwnR TFe w1 w.heap.size v1 [(0, 1, ⟨#[102, 49]⟩, r0, 0, ByteArray.empty)] ∧ [((0, 1, ⟨#[102, 49]⟩, r0, 0, ByteArray.empty) : Fed)].length ≤ 1 ∧ (∀ x ∈ [((0, 1, ⟨#[102, 49]⟩, r0, 0, ByteArray.empty) : Fed)], FedOk x) ∧ Str w1 s c ∧ w.grownBy w1 (some s) from ⟨hO1, Nat.le_refl _, (by intro x hx; rw [List.mem_singleton] at hx; subst hx; exact hok1), hS1, hG1⟩)
      clear hO1 hA1 hb1 hS1 hG1
      go_wp2
      go_meet
      case rel => exact ⟨_, HREL⟩
    · have hmz : ¬ (0 : Int) < (m : Int) := by omega
      have HREL := Lib.hid (show OwnR TFe w w.heap.size (.slice none 0 0) [] ∧ ([] : List Fed).length ≤ 1 ∧ (∀ x ∈ ([] : List Fed), FedOk x) ∧ Str w s c ∧ w.grownBy w (some s) from ⟨OwnR.nil _ _, Nat.zero_le _, (by intro x hx; simp at hx), h, Gr.refl _ _⟩)
      go_wp2
      go_meet
      case rel => exact ⟨_, HREL⟩
  case rest =>
  obtain ⟨l0, HL0⟩ := hcut
  generalize wc = w1 at *
  obtain ⟨hO1, hl0, hok1, hS1, hG1⟩ := HL0.out
  have HO1 := Lib.hid hO1
  have HOK1 := Lib.hid (And.intro hl0 hok1)
  clear hO1 HL0 hl0 hok1 h
  go_wp2_with fail
  refine (Range_any s c 0 14 _ hS1 (by omega) (by omega) (by omega) (by omega) (by omega)).mono ?_
  rintro e w2 ⟨n, rfl, ⟨hn0, hn1, _⟩, hS2, hG2⟩
  have hn2 := hn1 (by omega)
  clear hn1
  obtain ⟨n, rfl⟩ := Int.eq_ofNat_of_zero_le hn0
  have HO2 := Lib.hid (HO1.out.grown hG2 ls)
  have hG2' := Gr.trans hG1 hG2
  clear hG1 hG2 hS1 HO1
  go_wp2_with fail
  go_loopw [5, 6, 22] (fun av v i wr => ∃ (k : Nat) (at' : Int) (l : List Fed), k ≤ n ∧ i = .int .i64 k ∧ av = .int .i64 at' ∧ 0 ≤ at' ∧ at' ≤ 5 * k ∧ OwnR TFe wr w.heap.size v l ∧ Hid (l.length ≤ k + 1) ∧ (∀ x ∈ l, FedOk x) ∧ Str wr s (c + 1 + 200 * k) ∧ w.grownBy wr (some s)) (fun _ _ i _ => n - (intOf i).toNat)
  case atStart => exact ⟨0, 0, l0, Nat.zero_le _, rfl, rfl, by omega, by omega, HO2.out, Lib.hid HOK1.out.1, HOK1.out.2, hS2.mono (by omega), hG2'⟩
  case round =>
    obtain ⟨k, at', l, hk, rfl, rfl, ha0, ha1, hO, hl, hB, hS, hG⟩ := hrel
    have hz0 := hG.size
    obtain ⟨oa, ocap, rfl, _, _⟩ := hO.form
    by_cases hlt : k < n
    · go_wp2_with fail
      refine (AFeed_any s _ wr hS (by omega)).mono ?_
      rintro e w3 ⟨x, rfl, hx, hS3, hG3⟩
      have hO3 := hO.grown hG3 ls
      have hG3' := Gr.trans hG hG3
      have hz3 := hG3'.size
      have HNO : ∀ g, (Value.slice oa l.length ocap).ownBlock = some g → g ≠ w3.heap.size := fun g e => by
        have := (World.ownsRow.lt hO3 g e).2
        omega
      obtain ⟨xa, kd, fd, rl, mn, bd⟩ := x
      clear hO hG3 hS hG
      unfold fedV
      obtain ⟨w4, hw4⟩ : ∃ w4, w4 = w3.alloc (.cells #[.int .i64 xa, .int .i64 kd, .string fd, .string rl, .int .i64 mn, .string bd] 37) := ⟨_, rfl⟩
      have hX4 : w4.heap[w3.heap.size]? = some (.cells #[.int .i64 xa, .int .i64 kd, .string fd, .string rl, .int .i64 mn, .string bd] 37 (0, 0)) := by rw [hw4]; exact blk_new w3 _
      have hO4 : OwnR TFe w4 w.heap.size (.slice oa l.length ocap) l := by rw [hw4]; exact hO3.alloc _
      have hS4 : Str w4 s (c + 1 + 200 * k + 8) := by rw [hw4]; exact hS3.alloc _
      have hG4 : w.grownBy w4 (some s) := by rw [hw4]; exact Gr.alloc hG3' _
      obtain ⟨X, hX⟩ : ∃ X, X = w3.heap.size := ⟨_, rfl⟩
      rw [← hX] at hX4 hz3 HNO
      have HW4 := Lib.hid hw4
      have HXX := Lib.hid hX
      have y3 : w4.cell? ⟨X, 3, none⟩ = some (.string rl) := blk_cell hX4 3
      have hz4 := blk_lt hX4
      clear hO3 hS3 hG3'
      by_cases hrl : rl = ByteArray.empty
      case' pos =>
        have hq0 : rl.toList = [] := by rw [hrl]; exact empty_list
        have hq1 : rl.toList.isEmpty = true := by rw [hq0]; rfl
        clear hrl
        go_wp2_with fail
        rw [← hX, ← hw4]
        clear hw4 hX hq0 hq1
        obtain ⟨w6, hw6⟩ : ∃ w6, w6 = w4 := ⟨_, rfl⟩
        rw [← hw6]
        have HSZ : Hid (X + 1 = w6.heap.size) := Lib.hid (by rw [hw6, HW4.out, HXX.out]; simp)
        obtain ⟨rl6, hrl6⟩ : ∃ z : ByteArray, z = rl := ⟨_, rfl⟩
        have hrs6 : rl6.size ≤ 5 := by rw [hrl6]; exact hx.2.2.2.1
        have hX6 : w6.heap[X]? = some (.cells #[.int .i64 xa, .int .i64 kd, .string fd, .string rl6, .int .i64 mn, .string bd] 37 (0, 0)) := by rw [hw6, hrl6]; exact hX4
        have hO6 : OwnR TFe w6 w.heap.size (.slice oa l.length ocap) l := by rw [hw6]; exact hO4
        have hS6 : Str w6 s (c + 1 + 200 * k + 20) := by rw [hw6]; exact hS4.mono (by omega)
        have hG6 : w.grownBy w6 (some s) := by rw [hw6]; exact hG4
        clear hX4 hO4 hS4 hG4 y3 hw6 hrl6 HW4
      case' neg =>
        have hq0 : ¬ rl.toList = [] := fun e => hrl (ba_extF (by rw [e, empty_list]))
        have hq1 : rl.toList.isEmpty = false := by cases hq : rl.toList with | nil => exact absurd hq hq0 | cons x y => rfl
        clear hrl
        by_cases hmq : 0 < m
        case' neg =>
          have hmz : ¬ (0 : Int) < (m : Int) := by omega
          go_wp2_with fail
          rw [← hX, ← hw4]
          clear hw4 hX hq0 hq1
          obtain ⟨w6, hw6⟩ : ∃ w6, w6 = w4 := ⟨_, rfl⟩
          rw [← hw6]
          have HSZ : Hid (X + 1 = w6.heap.size) := Lib.hid (by rw [hw6, HW4.out, HXX.out]; simp)
          obtain ⟨rl6, hrl6⟩ : ∃ z : ByteArray, z = rl := ⟨_, rfl⟩
          have hrs6 : rl6.size ≤ 5 := by rw [hrl6]; exact hx.2.2.2.1
          have hX6 : w6.heap[X]? = some (.cells #[.int .i64 xa, .int .i64 kd, .string fd, .string rl6, .int .i64 mn, .string bd] 37 (0, 0)) := by rw [hw6, hrl6]; exact hX4
          have hO6 : OwnR TFe w6 w.heap.size (.slice oa l.length ocap) l := by rw [hw6]; exact hO4
          have hS6 : Str w6 s (c + 1 + 200 * k + 20) := by rw [hw6]; exact hS4.mono (by omega)
          have hG6 : w.grownBy w6 (some s) := by rw [hw6]; exact hG4
          clear hX4 hO4 hS4 hG4 y3 hw6 hrl6 HW4
        case' pos =>
          have hmp : (0 : Int) < (m : Int) := by omega
          obtain ⟨rb, ro, hra⟩ := HRA.out hmq
          subst hra
          go_wp2_with fail
          rw [← hX, ← hw4]
          refine (Flip_any s _ 25 w4 hS4 (by omega) (by omega)).mono ?_
          rintro e w5 ⟨fl, rfl, hS5, hG5'⟩
          have hX5 := Gr.blk hG5' hX4 (by omega)
          have hO5 := hO4.grown hG5' ls
          have hG5 := Gr.trans hG4 hG5'
          have hz5 := blk_lt hX5
          clear hw4 hX hG5' hX4 hO4 hS4 hG4 y3
          cases fl
          case' true =>
            go_wp2_with fail
            clear hq0 hq1
            obtain ⟨w6, hw6⟩ : ∃ w6, w6 = w5 := ⟨_, rfl⟩
            rw [← hw6]
            have HSZ : Hid (w6.heap.size = w6.heap.size) := Lib.hid rfl
            obtain ⟨rl6, hrl6⟩ : ∃ z : ByteArray, z = rl := ⟨_, rfl⟩
            have hrs6 : rl6.size ≤ 5 := by rw [hrl6]; exact hx.2.2.2.1
            have hX6 : w6.heap[X]? = some (.cells #[.int .i64 xa, .int .i64 kd, .string fd, .string rl6, .int .i64 mn, .string bd] 37 (0, 0)) := by rw [hw6, hrl6]; exact hX5
            have hO6 : OwnR TFe w6 w.heap.size (.slice oa l.length ocap) l := by rw [hw6]; exact hO5
            have hS6 : Str w6 s (c + 1 + 200 * k + 20) := by rw [hw6]; exact hS5.mono (by omega)
            have hG6 : w.grownBy w6 (some s) := by rw [hw6]; exact hG5
            clear hX5 hO5 hS5 hG5 hw6 hrl6 HW4
          case' false =>
            go_wp2_with fail
            refine (Next_any s _ m w5 hS5 (by omega) (by omega)).mono ?_
            rintro e w7 ⟨j, rfl, ⟨hj0, hj1, _⟩, hS7, hG7'⟩
            have hj2 := hj1 (by omega)
            clear hj1
            obtain ⟨j, rfl⟩ := Int.eq_ofNat_of_zero_le hj0
            have hX7 := Gr.blk hG7' hX5 (by omega)
            have hO7 := hO5.grown hG7' ls
            have hG7 := Gr.trans hG5 hG7'
            have hz7 := blk_lt hX7
            obtain ⟨rl6, cj, hrs6⟩ := HRC.out rb ro rfl w7 hG7 j (by omega)
            have y3 : w7.cell? ⟨X, 3, none⟩ = some (.string rl) := blk_cell hX7 3
            have g3 := blk_free hX7 3
            have hXw : w.heap.size ≤ X := by omega
            clear hq0 hq1 hG7' hX5 hO5 hS5 hG5
            obtain ⟨w6, hw6⟩ : ∃ w6, w6 = w7.setCell ⟨X, 3, none⟩ (.string rl6) := ⟨_, rfl⟩
            go_wp2_with fail
            rw [← hw6]
            have HSZ : Hid (w7.heap.size = w6.heap.size) := Lib.hid (by rw [hw6]; simp)
            have hX6 : w6.heap[X]? = some (.cells #[.int .i64 xa, .int .i64 kd, .string fd, .string rl6, .int .i64 mn, .string bd] 37 (0, 0)) := by rw [hw6]; exact blk_set hX7 3 (.string rl6)
            have hO6 : OwnR TFe w6 w.heap.size (.slice oa l.length ocap) l := by rw [hw6]; exact own_off hO7 (fun k hk => Below.heap_setCell _ _ _ _ hk) HNO
            have hS6 : Str w6 s (c + 1 + 200 * k + 20) := by rw [hw6]; exact (hS7.belowB (B := w.heap.size) (Bl.set (Below.refl _ _) _ _ hXw _) ls).mono (by omega)
            have hG6 : w.grownBy w6 (some s) := by rw [hw6]; exact Gr.set hG7 _ _ (.inr hXw) _
            clear hX7 hO7 hS7 hG7 hw6 y3 g3 cj HW4
      all_goals (
        have hz6 := blk_lt hX6
        refine (Pick_any s _ [0, 1, 1, 5] _ _ (hS6.alloc _) (by omega) (Ints.of_blk (blk_new' _ _ HSZ.out) rfl rfl (by simp) (by omega) (by have := HSZ.out; omega)) (by simp) (by simp)).mono ?_
        rintro e w8 ⟨d, rfl, hd, hS8, hG8'⟩
        have hd1 : 0 ≤ d ∧ d ≤ 5 := by simp only [List.mem_cons, List.not_mem_nil, or_false] at hd; omega
        have hX8 := Gr.blk hG8' (blk_old hX6 _) (by omega)
        have hO8 := (hO6.alloc (.cells #[.int .i64 0, .int .i64 1, .int .i64 1, .int .i64 5] 3)).grown hG8' ls
        have hG8 := Gr.trans (Gr.alloc hG6 _) hG8'
        clear hd hX6 hO6 hS6 hG6 hG8'
        have hw1 : IntKind.i64.wrap (at' + d) = at' + d := IntWalk.i64_in _ (by omega)
        have hwk : IntKind.i64.wrap ((k : Int) + 1) = ((k + 1 : Nat) : Int) := by rw [IntWalk.i64_in _ (by omega)]; omega
        have y0 : w8.cell? ⟨X, 0, none⟩ = some (.int .i64 xa) := blk_cell hX8 0
        have g0 := blk_free hX8 0
        have hX9 := blk_set hX8 0 (.int .i64 (at' + d))
        have z0 := blk_cell hX9 0
        have z1 := blk_cell hX9 1
        have z2 := blk_cell hX9 2
        have z3 := blk_cell hX9 3
        have z4 := blk_cell hX9 4
        have z5 := blk_cell hX9 5
        simp at z0 z1 z2 z3 z4 z5
        have hz8 := blk_lt hX8
        have hXw : w.heap.size ≤ X := by omega
        have hO9 : OwnR TFe (w8.setCell ⟨X, 0, none⟩ (.int .i64 (at' + d))) w.heap.size (.slice oa l.length ocap) l := own_off hO8 (fun k hk => Below.heap_setCell _ _ _ _ hk) HNO
        have hS9 : Str (w8.setCell ⟨X, 0, none⟩ (.int .i64 (at' + d))) s _ := hS8.belowB (B := w.heap.size) (Bl.set (Below.refl _ _) _ _ hXw _) ls
        have hG9 : w.grownBy (w8.setCell ⟨X, 0, none⟩ (.int .i64 (at' + d))) (some s) := Gr.set hG8 _ _ (.inr hXw) _
        clear hX8 hO8 hS8 hG8
        have hll : l.length ≤ 1000000 := by have := hl.out; omega
        have hzz : w.heap.size ≤ w8.heap.size := by omega
        have HNEW : Hid (∀ x ∈ l ++ [((at' + d, kd, fd, rl6, mn, bd) : Fed)], FedOk x) := Lib.hid (by
          intro z hz
          rcases List.mem_append.1 hz with h | h
          · exact hB z h
          · rw [List.mem_singleton] at h
            subst h
            exact ⟨⟨by show -1099511627777 ≤ at' + d; omega, by show at' + d ≤ 1099511627777; omega⟩, hx.2.1, hx.2.2.1, hrs6, hx.2.2.2.2⟩)
        go_wp2_with (at_builtin; refine wp_app_rec TFe.ok rfl _ _ rfl w.heap.size _ l rfl (hO9.alloc _) w8.heap.size 1 (at' + d, kd, fd, rl6, mn, bd) rfl (blk_new' _ _ (by simp)) rfl hll (by simp; omega) ?_)
        intro v9 w9 hOz hAz hbz
        have hSz := (hS9.alloc (.cells #[.int .i64 (at' + d), .int .i64 kd, .string fd, .string rl6, .int .i64 mn, .string bd] 37)).belowB hbz ls
        have hGz := Gr.app (Gr.alloc hG9 (.cells #[.int .i64 (at' + d), .int .i64 kd, .string fd, .string rl6, .int .i64 mn, .string bd] 37)) (hO9.alloc _) hAz (Nat.le_refl _)
        have HF := Lib.hid (And.intro hOz (And.intro (hSz.mono (d := c + 1 + 200 * ((k + 1 : Nat) : Int)) (by omega)) hGz))
        clear hOz hSz hGz hAz hbz hS9 hG9 hO9
        go_wp2
        go_roundw
        case rel => exact ⟨k + 1, at' + d, l ++ [(at' + d, kd, fd, rl6, mn, bd)], by omega, by go_num, rfl, by omega, by omega, HF.out.1, Lib.hid (by rw [List.length_append]; have := hl.out; simp only [List.length_cons, List.length_nil]; omega), HNEW.out, HF.out.2.1, HF.out.2.2⟩
        case measure => simp [intOf]; omega)
    · obtain rfl : k = n := by omega
      by_cases hlz : l = []
      · subst hlz
        have HF := Lib.hid (And.intro hO (And.intro (hS.mono (d := c + 6000) (by omega)) hG))
        clear hO hS hG
        go_wp2
        go_ret
        exact ⟨_, [], rfl, HF.out.1, by simp, by simp, HF.out.2.1, HF.out.2.2⟩
      have hl15 : l.length ≤ 15 ∧ 1 ≤ l.length := by have := hl.out; have := List.length_pos_iff.2 hlz; omega
      have h0' : (0 : Int) < (l.length : Int) := by omega
      have hlpos : l ≠ [] := hlz
      clear hlz
      obtain ⟨go, cap, cur, hoa, hgo, hgb, hcl, _⟩ := hO.blk hlpos
      injection hoa with hoa1 _ hoa2
      subst hoa1 hoa2
      clear hgb
      go_wp2_with fail
      refine (Flip_any s _ 12 wr hS (by omega) (by omega)).mono ?_
      rintro e w8 ⟨fl, rfl, hS8, hG8⟩
      have hO8 := hO.grown hG8 ls
      have hG8' := Gr.trans hG hG8
      clear hO hS hG8
      cases fl
      · have HF := Lib.hid (And.intro hO8 (And.intro (hS8.mono (d := c + 6000) (by omega)) hG8'))
        clear hO8 hS8 hG8'
        go_wp2
        go_ret
        exact ⟨_, l, rfl, HF.out.1, by omega, hB, HF.out.2.1, HF.out.2.2⟩
      · go_wp2_with fail
        refine (Next_any s _ l.length w8 hS8 (by omega) (by omega)).mono ?_
        rintro e w7 ⟨j, rfl, ⟨hj0, hj1, _⟩, hS7, hG7⟩
        have hj2 := hj1 (by omega)
        clear hj1
        obtain ⟨j, rfl⟩ := Int.eq_ofNat_of_zero_le hj0
        have hO7 := hO8.grown hG7 ls
        have hG7' := Gr.trans hG8' hG7
        clear hO8 hS8 hG8' hG7
        have hjn : j < l.length := by omega
        go_wp2_with fail
        refine (Next_any s _ 3 w7 hS7 (by omega) (by omega)).mono ?_
        rintro e w9 ⟨q, rfl, ⟨hq0, hq1, _⟩, hS9, hG9⟩
        have hq2 := hq1 (by omega)
        clear hq1
        have hO9 := hO7.grown hG9 ls
        have hG9' := Gr.trans hG7' hG9
        have hgo9 : go < w9.heap.size := by
          have := (World.ownsRow.lt hO9 go rfl).2
          exact this
        have hS9' := hS9.mono (d := c + 5000 + 300) (by omega)
        clear hO7 hS7 hG7' hG9 hS9
        have hqq : q = 0 ∨ q = 1 ∨ q = 2 := by omega
        clear hq0 hq2
        rcases hqq with rfl | rfl | rfl
        · obtain ⟨x0, hx0⟩ : ∃ x, l[j]? = some x := ⟨_, List.getElem?_eq_getElem hjn⟩
          have hok0 := hB _ (List.mem_of_getElem? hx0)
          obtain ⟨y0, g0⟩ := OwnR.cellf TFe.ok hO9 rfl hx0 (fo := 0) rfl
          replace y0 : w9.cell? ⟨go, j * 6, none⟩ = some (.int .i64 x0.1) := y0
          obtain ⟨xa, hxa⟩ : ∃ xa, xa = x0.1 := ⟨_, rfl⟩
          rw [← hxa] at y0
          have HX0 := Lib.hid hx0
          have HK0 := Lib.hid hok0
          have HXA := Lib.hid hxa
          clear g0 hx0 hok0 hxa
          go_wp2_with fail
          refine (Pick_any s _ [xa, -1, 0, 345686400000] _ _ (hS9'.alloc _) (by omega) (Ints.of_blk (blk_new _ _) rfl rfl (by simp) (by omega) hS9'.lt) (by simp) (by simp)).mono ?_
          rintro e wa ⟨ra, rfl, hra, hSa, hGa⟩
          have hra1 : -1099511627777 ≤ ra ∧ ra ≤ 1099511627777 := by
            have := HK0.out.1
            rw [← HXA.out] at this
            simp only [List.mem_cons, List.not_mem_nil, or_false] at hra
            omega
          have hOa := (hO9.alloc (.cells #[.int .i64 xa, .int .i64 (-1), .int .i64 0, .int .i64 345686400000] 3)).grown hGa ls
          have hGa' := Gr.trans (Gr.alloc hG9' _) hGa
          clear hO9 hS9' hG9' hGa y0 hra
          go_wp2_with fail
          refine (Odd_any s _ 1 5 wa hSa (by omega) (by omega) (by omega) (by omega)).mono ?_
          rintro e wb ⟨rb2, rfl, hrb, hSb, hGb⟩
          have hOb := hOa.grown hGb ls
          have hGb' := Gr.trans hGa' hGb
          clear hOa hSa hGa' hGb
          obtain ⟨y0, g0⟩ := OwnR.cellf TFe.ok hOb rfl HX0.out (fo := 0) rfl
          obtain ⟨y1, g1⟩ := OwnR.cellf TFe.ok hOb rfl HX0.out (fo := 1) rfl
          replace y0 : wb.cell? ⟨go, j * 6, none⟩ = some (.int .i64 x0.1) := y0
          replace g0 : wb.frozen? ⟨go, j * 6, none⟩ = false := g0
          replace y1 : wb.cell? ⟨go, j * 6 + 1, none⟩ = some (.int .i64 x0.2.1) := y1
          replace g1 : wb.frozen? ⟨go, j * 6 + 1, none⟩ = false := g1
          have hO2 : OwnR TFe (wb.setCell ⟨go, j * 6, none⟩ (.int .i64 ra)) w.heap.size (.slice (some ⟨go, 0, none⟩) l.length ocap) (l.set j ((ra, x0.2))) := OwnR.setf TFe.ok hOb rfl HX0.out (fo := 0) (by decide) rfl
          have hO3 : OwnR TFe ((wb.setCell ⟨go, j * 6, none⟩ (.int .i64 ra)).setCell ⟨go, j * 6 + 1, none⟩ (.int .i64 rb2)) w.heap.size (.slice (some ⟨go, 0, none⟩) l.length ocap) ((l.set j ((ra, x0.2))).set j ((ra, rb2, x0.2.2))) := OwnR.setf (x := (ra, x0.2)) TFe.ok hO2 (by rw [List.length_set]) (by rw [List.getElem?_set_self hjn]) (fo := 1) (by decide) rfl
          have HOK : Hid (∀ z ∈ (l.set j ((ra, x0.2))).set j ((ra, rb2, x0.2.2)), FedOk z) := Lib.hid fun z hz => by
            rw [List.set_set] at hz
            rcases List.mem_or_eq_of_mem_set hz with h | rfl
            · exact hB z h
            · exact ⟨hra1, hrb, HK0.out.2.2⟩
          have HLN : Hid (((l.set j ((ra, x0.2))).set j ((ra, rb2, x0.2.2))).length ≤ 15) := Lib.hid (by rw [List.length_set, List.length_set]; omega)
          have hgw : w.heap.size ≤ go := (World.ownsRow.lt hOb go rfl).1
          have hS3 := (hSb.belowB (B := w.heap.size) (Bl.set (Bl.set (Below.refl _ _) go (j * 6) hgw (.int .i64 ra)) go (j * 6 + 1) hgw (.int .i64 rb2)) ls).mono (d := c + 6000) (by omega)
          have hG3 := Gr.set (Gr.set hGb' go (j * 6) (.inr hgw) (.int .i64 ra)) go (j * 6 + 1) (.inr hgw) (.int .i64 rb2)
          have HF := Lib.hid (And.intro hO3 (And.intro hS3 hG3))
          clear hO2 hO3 hS3 hG3 hOb hSb hGb'
          go_wp2
          go_ret
          exact ⟨_, _, rfl, HF.out.1, HLN.out, HOK.out, HF.out.2.1, HF.out.2.2⟩
        · have HK : OwnK (fun W => ∃ l' : List Fed, OwnR TFe W w.heap.size (.slice (some ⟨go, 0, none⟩) l.length ocap) l' ∧ l'.length = l.length ∧ ∀ x ∈ l', FedOk x) s := ⟨fun W W' h hb => (by obtain ⟨l', h1, h2⟩ := h; exact ⟨l', h1.below hb, h2⟩), fun W W' h hg => (by obtain ⟨l', h1, h2⟩ := h; exact ⟨l', h1.grown hg ls, h2⟩)⟩
          go_wp2
          refine wp_region_inv (by kernel_rfl) [109, 110, 111, 112, 113, 114, 115, 116, 117, 118, 119, 120, 121, 122, 123, 124, 125, 126, 127, 128] (RB (fun W => ∃ l' : List Fed, OwnR TFe W w.heap.size (.slice (some ⟨go, 0, none⟩) l.length ocap) l' ∧ l'.length = l.length ∧ ∀ x ∈ l', FedOk x) w s (w9.heap.size) (c + 5000 + 900)) (RR (w9.heap.size)) (fun i => [VE (.pointer (some ⟨go, j * 6, none⟩)), VE (.pointer (some ⟨go, j * 6, none⟩)), VE (.pointer (some ⟨s, 0, none⟩)), VE (.pointer (some ⟨go, j * 6, none⟩)), VE (.pointer (some ⟨go, j * 6, none⟩)), VE (.pointer (some ⟨go, j * 6 + 2, none⟩)), VS 5, VLS (w9.heap.size) 5 3, VS 5, VE (.pointer (some ⟨s, 0, none⟩)), VE (.pointer (some ⟨go, j * 6, none⟩)), VE (.pointer (some ⟨go, j * 6, none⟩)), VE (.pointer (some ⟨go, j * 6 + 3, none⟩)), VS 5, VLS (w9.heap.size) 5 3, VS 5, VE (.pointer (some ⟨go, j * 6, none⟩)), VE (.pointer (some ⟨go, j * 6 + 2, none⟩)), VT, VE (.pointer (some ⟨go, j * 6, none⟩)), VE (.pointer (some ⟨go, j * 6 + 3, none⟩)), VT].getD i VT) (by kernel_rfl) (by kernel_rfl) (fun u u' W hu h => h.mono hu) ?_ ?_ ?_ ?_ ?_
          · exact ⟨(hS9'.drew).mono (by show _ ≤ (c + 5000 + 900) - 10 * ((22 : Nat) : Int); omega), ⟨l, hO9, rfl, hB⟩, Nat.le_refl _, ⟨hG9'.os, hG9'.tape, hG9'.output, hG9'.size, hG9'.block⟩⟩
          · intro u W W' i v hB hR hV
            exact match i, hV with
              | 0, h => h
              | 1, h => h
              | 2, h => h
              | 3, h => h
              | 4, h => h
              | 5, h => h
              | 6, h => h
              | 7, h => VLS.stab h hR
              | 8, h => h
              | 9, h => h
              | 10, h => h
              | 11, h => h
              | 12, h => h
              | 13, h => h
              | 14, h => VLS.stab h hR
              | 15, h => h
              | 16, h => h
              | 17, h => h
              | 18, h => h
              | 19, h => h
              | 20, h => h
              | 21, h => h
              | (_ + 22), _ => trivial
          · intro i o v W ho hd
            match i, ho with
              | 0, ho => (obtain rfl := Option.some.inj ho; cases hd)
              | 1, ho => (obtain rfl := Option.some.inj ho; cases hd)
              | 2, ho => (obtain rfl := Option.some.inj ho; cases hd)
              | 3, ho => (obtain rfl := Option.some.inj ho; cases hd)
              | 4, ho => (obtain rfl := Option.some.inj ho; cases hd)
              | 5, ho => (obtain rfl := Option.some.inj ho; cases hd)
              | 6, ho => (obtain rfl := Option.some.inj ho; cases hd)
              | 7, ho => (obtain rfl := Option.some.inj ho; cases hd)
              | 8, ho => (obtain rfl := Option.some.inj ho; cases hd)
              | 9, ho => (obtain rfl := Option.some.inj ho; cases hd)
              | 10, ho => (obtain rfl := Option.some.inj ho; cases hd)
              | 11, ho => (obtain rfl := Option.some.inj ho; cases hd)
              | 12, ho => (obtain rfl := Option.some.inj ho; cases hd)
              | 13, ho => (obtain rfl := Option.some.inj ho; cases hd)
              | 14, ho => (obtain rfl := Option.some.inj ho; cases hd)
              | 15, ho => (obtain rfl := Option.some.inj ho; cases hd)
              | 16, ho => (obtain rfl := Option.some.inj ho; cases hd)
              | 17, ho => (obtain rfl := Option.some.inj ho; cases hd)
              | 18, ho => trivial
              | 19, ho => (obtain rfl := Option.some.inj ho; cases hd)
              | 20, ho => (obtain rfl := Option.some.inj ho; cases hd)
              | 21, ho => trivial
              | (_ + 22), _ => trivial
          · intro i o u f W ho hi hB hdep
            have hi' : i = 0 ∨ i = 1 ∨ i = 2 ∨ i = 3 ∨ i = 4 ∨ i = 5 ∨ i = 6 ∨ i = 7 ∨ i = 8 ∨ i = 9 ∨ i = 10 ∨ i = 11 ∨ i = 12 ∨ i = 13 ∨ i = 14 ∨ i = 15 ∨ i = 16 ∨ i = 17 ∨ i = 18 ∨ i = 19 ∨ i = 20 ∨ i = 21 := by
              have : i < 22 := hi
              omega
            rcases hi' with rfl | rfl | rfl | rfl | rfl | rfl | rfl | rfl | rfl | rfl | rfl | rfl | rfl | rfl | rfl | rfl | rfl | rfl | rfl | rfl | rfl | rfl
            · refine iv_val ho (by obtain rfl := Option.some.inj ho; rfl) (.pointer (some ⟨go, j * 6, none⟩)) W ?_ (hB.below HK (Below.refl _ _)) (RR.refl _ _) rfl
              · intro q hq
                obtain rfl := Option.some.inj ho
                have e8 := hq.tmp 8
                simp at e8
                simp [execOp, e8, go_sem]
            · refine iv_val ho (by obtain rfl := Option.some.inj ho; rfl) (.pointer (some ⟨go, j * 6, none⟩)) W ?_ (hB.below HK (Below.refl _ _)) (RR.refl _ _) rfl
              · intro q hq
                obtain rfl := Option.some.inj ho
                have e8 := hq.tmp 8
                simp at e8
                simp [execOp, e8, go_sem]
            · refine iv_val ho (by obtain rfl := Option.some.inj ho; rfl) (.pointer (some ⟨s, 0, none⟩)) W ?_ (hB.below HK (Below.refl _ _)) (RR.refl _ _) rfl
              · intro q hq
                obtain rfl := Option.some.inj ho
                have e0 := hq.tmp 0
                simp at e0
                simp [execOp, e0, go_sem]
            · refine iv_val ho (by obtain rfl := Option.some.inj ho; rfl) (.pointer (some ⟨go, j * 6, none⟩)) W ?_ (hB.below HK (Below.refl _ _)) (RR.refl _ _) rfl
              · intro q hq
                obtain rfl := Option.some.inj ho
                have e8 := hq.tmp 8
                simp at e8
                simp [execOp, e8, go_sem]
            · have d112 : f 112 = .pointer (some ⟨go, j * 6, none⟩) := hdep ⟨3, .data⟩ (by obtain rfl := Option.some.inj ho; simp) rfl
              refine iv_val ho (by obtain rfl := Option.some.inj ho; rfl) (.pointer (some ⟨go, j * 6, none⟩)) W ?_ (hB.below HK (Below.refl _ _)) (RR.refl _ _) rfl
              · intro q hq
                obtain rfl := Option.some.inj ho
                have e112 := hq.tmp 112
                simp at e112
                simp [execOp, e112, d112, go_sem]
            · have d113 : f 113 = .pointer (some ⟨go, j * 6, none⟩) := hdep ⟨4, .data⟩ (by obtain rfl := Option.some.inj ho; simp) rfl
              refine iv_val ho (by obtain rfl := Option.some.inj ho; rfl) (.pointer (some ⟨go, j * 6 + 2, none⟩)) W ?_ (hB.below HK (Below.refl _ _)) (RR.refl _ _) rfl
              · intro q hq
                obtain rfl := Option.some.inj ho
                have e113 := hq.tmp 113
                simp at e113
                simp [execOp, e113, d113, go_sem]
            · have d114 : f 114 = .pointer (some ⟨go, j * 6 + 2, none⟩) := hdep ⟨5, .data⟩ (by obtain rfl := Option.some.inj ho; simp) rfl
              obtain ⟨l', hO', hn', hOk'⟩ := hB.own
              obtain ⟨x0, hx0⟩ : ∃ x, l'[j]? = some x := ⟨_, List.getElem?_eq_getElem (by omega)⟩
              have hok0 := hOk' _ (List.mem_of_getElem? hx0)
              have y0 : W.cell? ⟨go, j * 6 + 2, none⟩ = some (.string x0.2.2.1) := (OwnR.cellf TFe.ok hO' hn'.symm hx0 (fo := 2) rfl).1
              refine iv_val ho (by obtain rfl := Option.some.inj ho; rfl) (.string x0.2.2.1) W ?_ (hB.below HK (Below.refl _ _)) (RR.refl _ _) ⟨_, rfl, hok0.2.2.1⟩
              · intro q hq
                obtain rfl := Option.some.inj ho
                have e114 := hq.tmp 114
                simp at e114
                simp [execOp, e114, d114, go_sem, y0]
            · obtain ⟨x115, d115, p115⟩ : VS 5 (f 115) W := hdep ⟨6, .data⟩ (by obtain rfl := Option.some.inj ho; simp) rfl
              refine iv_val ho (by obtain rfl := Option.some.inj ho; rfl) (.slice (some ⟨W.heap.size, 0, none⟩) 3 3) (W.alloc (.cells #[.string x115, .string (⟨#[]⟩ : ByteArray), .string (⟨#[70]⟩ : ByteArray)] 9)) ?_ (hB.below HK (Bl.alloc (Below.refl _ _) _)) (RR.of_below (Bl.alloc (Below.refl _ _) _)) ⟨[x115, (⟨#[]⟩ : ByteArray), (⟨#[70]⟩ : ByteArray)], ⟨_, rfl⟩, rfl, RecR.of_blk (T := TS) (blk_new _ _) rfl rfl (by simp) (by omega) hB.size, ?_⟩
              · intro q hq
                obtain rfl := Option.some.inj ho
                have e115 := hq.tmp 115
                simp at e115
                simp [execOp, hq.const, e115, d115, go_sem]
              · intro x hx
                simp only [List.mem_cons, List.not_mem_nil, or_false] at hx
                rcases hx with rfl | rfl | rfl
                all_goals (first | assumption | (show _ ≤ 5; decide))
            · have d111 : f 111 = .pointer (some ⟨s, 0, none⟩) := hdep ⟨2, .data⟩ (by obtain rfl := Option.some.inj ho; simp) rfl
              obtain ⟨li, ⟨bi, d116⟩, hli, hri, hbi⟩ : VLS (w9.heap.size) 5 3 (f 116) W := hdep ⟨7, .data⟩ (by obtain rfl := Option.some.inj ho; simp) rfl
              refine iv_call ho (by obtain rfl := Option.some.inj ho; rfl) 41 #[.tmp 111, .tmp 116] _ (by obtain rfl := Option.some.inj ho; rfl) (enters_of Tryz.func41 (by kernel_rfl) rfl) #[.pointer (some ⟨s, 0, none⟩), f 116] (by intro q hq; have e111 := hq.tmp 111; simp at e111; have e116 := hq.tmp 116; simp at e116; simp [e111, e116, d111]) _ (Some_any s _ li (f 116) W hB.str (by omega) (Rd.mono hri (by omega)) (by omega) (by omega)) ?_
              rintro e W' ⟨r, rfl, hr, hs', hg'⟩
              exact ⟨_, rfl, hB.call HK hs' (by omega) hg', RR.of_gr hg' (by omega), ⟨r, rfl, hbi r hr⟩⟩
            · refine iv_val ho (by obtain rfl := Option.some.inj ho; rfl) (.pointer (some ⟨s, 0, none⟩)) W ?_ (hB.below HK (Below.refl _ _)) (RR.refl _ _) rfl
              · intro q hq
                obtain rfl := Option.some.inj ho
                have e0 := hq.tmp 0
                simp at e0
                simp [execOp, e0, go_sem]
            · refine iv_val ho (by obtain rfl := Option.some.inj ho; rfl) (.pointer (some ⟨go, j * 6, none⟩)) W ?_ (hB.below HK (Below.refl _ _)) (RR.refl _ _) rfl
              · intro q hq
                obtain rfl := Option.some.inj ho
                have e8 := hq.tmp 8
                simp at e8
                simp [execOp, e8, go_sem]
            · have d119 : f 119 = .pointer (some ⟨go, j * 6, none⟩) := hdep ⟨10, .data⟩ (by obtain rfl := Option.some.inj ho; simp) rfl
              refine iv_val ho (by obtain rfl := Option.some.inj ho; rfl) (.pointer (some ⟨go, j * 6, none⟩)) W ?_ (hB.below HK (Below.refl _ _)) (RR.refl _ _) rfl
              · intro q hq
                obtain rfl := Option.some.inj ho
                have e119 := hq.tmp 119
                simp at e119
                simp [execOp, e119, d119, go_sem]
            · have d120 : f 120 = .pointer (some ⟨go, j * 6, none⟩) := hdep ⟨11, .data⟩ (by obtain rfl := Option.some.inj ho; simp) rfl
              refine iv_val ho (by obtain rfl := Option.some.inj ho; rfl) (.pointer (some ⟨go, j * 6 + 3, none⟩)) W ?_ (hB.below HK (Below.refl _ _)) (RR.refl _ _) rfl
              · intro q hq
                obtain rfl := Option.some.inj ho
                have e120 := hq.tmp 120
                simp at e120
                simp [execOp, e120, d120, go_sem]
            · have d121 : f 121 = .pointer (some ⟨go, j * 6 + 3, none⟩) := hdep ⟨12, .data⟩ (by obtain rfl := Option.some.inj ho; simp) rfl
              obtain ⟨l', hO', hn', hOk'⟩ := hB.own
              obtain ⟨x0, hx0⟩ : ∃ x, l'[j]? = some x := ⟨_, List.getElem?_eq_getElem (by omega)⟩
              have hok0 := hOk' _ (List.mem_of_getElem? hx0)
              have y0 : W.cell? ⟨go, j * 6 + 3, none⟩ = some (.string x0.2.2.2.1) := (OwnR.cellf TFe.ok hO' hn'.symm hx0 (fo := 3) rfl).1
              refine iv_val ho (by obtain rfl := Option.some.inj ho; rfl) (.string x0.2.2.2.1) W ?_ (hB.below HK (Below.refl _ _)) (RR.refl _ _) ⟨_, rfl, hok0.2.2.2.1⟩
              · intro q hq
                obtain rfl := Option.some.inj ho
                have e121 := hq.tmp 121
                simp at e121
                simp [execOp, e121, d121, go_sem, y0]
            · obtain ⟨x122, d122, p122⟩ : VS 5 (f 122) W := hdep ⟨13, .data⟩ (by obtain rfl := Option.some.inj ho; simp) rfl
              refine iv_val ho (by obtain rfl := Option.some.inj ho; rfl) (.slice (some ⟨W.heap.size, 0, none⟩) 3 3) (W.alloc (.cells #[.string x122, .string (⟨#[122, 122]⟩ : ByteArray), .string (⟨#[114, 49]⟩ : ByteArray)] 9)) ?_ (hB.below HK (Bl.alloc (Below.refl _ _) _)) (RR.of_below (Bl.alloc (Below.refl _ _) _)) ⟨[x122, (⟨#[122, 122]⟩ : ByteArray), (⟨#[114, 49]⟩ : ByteArray)], ⟨_, rfl⟩, rfl, RecR.of_blk (T := TS) (blk_new _ _) rfl rfl (by simp) (by omega) hB.size, ?_⟩
              · intro q hq
                obtain rfl := Option.some.inj ho
                have e122 := hq.tmp 122
                simp at e122
                simp [execOp, hq.const, e122, d122, go_sem]
              · intro x hx
                simp only [List.mem_cons, List.not_mem_nil, or_false] at hx
                rcases hx with rfl | rfl | rfl
                all_goals (first | assumption | (show _ ≤ 5; decide))
            · have d118 : f 118 = .pointer (some ⟨s, 0, none⟩) := hdep ⟨9, .data⟩ (by obtain rfl := Option.some.inj ho; simp) rfl
              obtain ⟨li, ⟨bi, d123⟩, hli, hri, hbi⟩ : VLS (w9.heap.size) 5 3 (f 123) W := hdep ⟨14, .data⟩ (by obtain rfl := Option.some.inj ho; simp) rfl
              refine iv_call ho (by obtain rfl := Option.some.inj ho; rfl) 41 #[.tmp 118, .tmp 123] _ (by obtain rfl := Option.some.inj ho; rfl) (enters_of Tryz.func41 (by kernel_rfl) rfl) #[.pointer (some ⟨s, 0, none⟩), f 123] (by intro q hq; have e118 := hq.tmp 118; simp at e118; have e123 := hq.tmp 123; simp at e123; simp [e118, e123, d118]) _ (Some_any s _ li (f 123) W hB.str (by omega) (Rd.mono hri (by omega)) (by omega) (by omega)) ?_
              rintro e W' ⟨r, rfl, hr, hs', hg'⟩
              exact ⟨_, rfl, hB.call HK hs' (by omega) hg', RR.of_gr hg' (by omega), ⟨r, rfl, hbi r hr⟩⟩
            · have d109 : f 109 = .pointer (some ⟨go, j * 6, none⟩) := hdep ⟨0, .data⟩ (by obtain rfl := Option.some.inj ho; simp) rfl
              refine iv_val ho (by obtain rfl := Option.some.inj ho; rfl) (.pointer (some ⟨go, j * 6, none⟩)) W ?_ (hB.below HK (Below.refl _ _)) (RR.refl _ _) rfl
              · intro q hq
                obtain rfl := Option.some.inj ho
                have e109 := hq.tmp 109
                simp at e109
                simp [execOp, e109, d109, go_sem]
            · have d125 : f 125 = .pointer (some ⟨go, j * 6, none⟩) := hdep ⟨16, .data⟩ (by obtain rfl := Option.some.inj ho; simp) rfl
              refine iv_val ho (by obtain rfl := Option.some.inj ho; rfl) (.pointer (some ⟨go, j * 6 + 2, none⟩)) W ?_ (hB.below HK (Below.refl _ _)) (RR.refl _ _) rfl
              · intro q hq
                obtain rfl := Option.some.inj ho
                have e125 := hq.tmp 125
                simp at e125
                simp [execOp, e125, d125, go_sem]
            · have d126 : f 126 = .pointer (some ⟨go, j * 6 + 2, none⟩) := hdep ⟨17, .data⟩ (by obtain rfl := Option.some.inj ho; simp) rfl
              obtain ⟨x117, d117, p117⟩ : VS 5 (f 117) W := hdep ⟨8, .data⟩ (by obtain rfl := Option.some.inj ho; simp) rfl
              obtain ⟨l', hO', hn', hOk'⟩ := hB.own
              obtain ⟨x0, hx0⟩ : ∃ x, l'[j]? = some x := ⟨_, List.getElem?_eq_getElem (by omega)⟩
              have hok0 := hOk' _ (List.mem_of_getElem? hx0)
              obtain ⟨y0, g0⟩ := OwnR.cellf TFe.ok hO' hn'.symm hx0 (fo := 2) rfl
              replace y0 : W.cell? ⟨go, j * 6 + 2, none⟩ = some (.string x0.2.2.1) := y0
              replace g0 : W.frozen? ⟨go, j * 6 + 2, none⟩ = false := g0
              have hO2 : OwnR TFe (W.setCell ⟨go, j * 6 + 2, none⟩ (.string x117)) w.heap.size (.slice (some ⟨go, 0, none⟩) l.length ocap) (l'.set j ((x0.1, x0.2.1, x117, x0.2.2.2))) := OwnR.setf TFe.ok hO' hn'.symm hx0 (fo := 2) (by decide) rfl
              refine iv_skip ho (by obtain rfl := Option.some.inj ho; rfl) (by obtain rfl := Option.some.inj ho; rfl) (W.setCell ⟨go, j * 6 + 2, none⟩ (.string x117)) ?_ (hB.store (by omega) ls ⟨_, hO2, by rw [List.length_set]; exact hn', ?_⟩) ⟨by simp, fun i h1 h2 => ?_⟩ trivial
              · intro q hq
                obtain rfl := Option.some.inj ho
                have e117 := hq.tmp 117
                have e126 := hq.tmp 126
                simp at e117 e126
                simp [execOp, e117, e126, d117, d126, go_sem, y0, g0]
              · intro x hx
                rcases List.mem_or_eq_of_mem_set hx with h | rfl
                · exact hOk' x h
                · exact ⟨hok0.1, hok0.2.1, p117, hok0.2.2.2⟩
              · exact Below.heap_setCell _ _ _ _ (by show i ≠ go; omega)
            · have d110 : f 110 = .pointer (some ⟨go, j * 6, none⟩) := hdep ⟨1, .data⟩ (by obtain rfl := Option.some.inj ho; simp) rfl
              refine iv_val ho (by obtain rfl := Option.some.inj ho; rfl) (.pointer (some ⟨go, j * 6, none⟩)) W ?_ (hB.below HK (Below.refl _ _)) (RR.refl _ _) rfl
              · intro q hq
                obtain rfl := Option.some.inj ho
                have e110 := hq.tmp 110
                simp at e110
                simp [execOp, e110, d110, go_sem]
            · have d127 : f 127 = .pointer (some ⟨go, j * 6, none⟩) := hdep ⟨19, .data⟩ (by obtain rfl := Option.some.inj ho; simp) rfl
              refine iv_val ho (by obtain rfl := Option.some.inj ho; rfl) (.pointer (some ⟨go, j * 6 + 3, none⟩)) W ?_ (hB.below HK (Below.refl _ _)) (RR.refl _ _) rfl
              · intro q hq
                obtain rfl := Option.some.inj ho
                have e127 := hq.tmp 127
                simp at e127
                simp [execOp, e127, d127, go_sem]
            · have d128 : f 128 = .pointer (some ⟨go, j * 6 + 3, none⟩) := hdep ⟨20, .data⟩ (by obtain rfl := Option.some.inj ho; simp) rfl
              obtain ⟨x124, d124, p124⟩ : VS 5 (f 124) W := hdep ⟨15, .data⟩ (by obtain rfl := Option.some.inj ho; simp) rfl
              obtain ⟨l', hO', hn', hOk'⟩ := hB.own
              obtain ⟨x0, hx0⟩ : ∃ x, l'[j]? = some x := ⟨_, List.getElem?_eq_getElem (by omega)⟩
              have hok0 := hOk' _ (List.mem_of_getElem? hx0)
              obtain ⟨y0, g0⟩ := OwnR.cellf TFe.ok hO' hn'.symm hx0 (fo := 3) rfl
              replace y0 : W.cell? ⟨go, j * 6 + 3, none⟩ = some (.string x0.2.2.2.1) := y0
              replace g0 : W.frozen? ⟨go, j * 6 + 3, none⟩ = false := g0
              have hO2 : OwnR TFe (W.setCell ⟨go, j * 6 + 3, none⟩ (.string x124)) w.heap.size (.slice (some ⟨go, 0, none⟩) l.length ocap) (l'.set j ((x0.1, x0.2.1, x0.2.2.1, x124, x0.2.2.2.2))) := OwnR.setf TFe.ok hO' hn'.symm hx0 (fo := 3) (by decide) rfl
              refine iv_skip ho (by obtain rfl := Option.some.inj ho; rfl) (by obtain rfl := Option.some.inj ho; rfl) (W.setCell ⟨go, j * 6 + 3, none⟩ (.string x124)) ?_ (hB.store (by omega) ls ⟨_, hO2, by rw [List.length_set]; exact hn', ?_⟩) ⟨by simp, fun i h1 h2 => ?_⟩ trivial
              · intro q hq
                obtain rfl := Option.some.inj ho
                have e124 := hq.tmp 124
                have e128 := hq.tmp 128
                simp at e124 e128
                simp [execOp, e124, e128, d124, d128, go_sem, y0, g0]
              · intro x hx
                rcases List.mem_or_eq_of_mem_set hx with h | rfl
                · exact hOk' x h
                · exact ⟨hok0.1, hok0.2.1, hok0.2.2.1, p124, hok0.2.2.2.2⟩
              · exact Below.heap_setCell _ _ _ _ (by show i ≠ go; omega)
          intro f wz hB' hV
          unfold putsA
          simp only [List.mapIdx_toArray, List.mapIdx_cons, List.mapIdx_nil, List.contains_cons]
          simp
          clear hV HK hO9 hS9' hG9'
          obtain ⟨hSz, ⟨lz, hOz, hnz, hokz⟩, _, hGz⟩ := hB'
          have HF := Lib.hid (And.intro hOz (And.intro hokz (And.intro (hSz.mono (d := c + 6000) (by omega)) hGz)))
          have hlz : lz.length ≤ 15 := by omega
          clear hOz hSz hGz hokz
          go_wp2
          go_ret
          exact ⟨_, lz, rfl, HF.out.1, hlz, HF.out.2.1, HF.out.2.2.1, HF.out.2.2.2⟩
        · have HK : OwnK (fun W => ∃ l' : List Fed, OwnR TFe W w.heap.size (.slice (some ⟨go, 0, none⟩) l.length ocap) l' ∧ l'.length = l.length ∧ ∀ x ∈ l', FedOk x) s := ⟨fun W W' h hb => (by obtain ⟨l', h1, h2⟩ := h; exact ⟨l', h1.below hb, h2⟩), fun W W' h hg => (by obtain ⟨l', h1, h2⟩ := h; exact ⟨l', h1.grown hg ls, h2⟩)⟩
          go_wp2
          refine wp_region_inv (by kernel_rfl) [75, 76, 77, 78, 79, 80, 81, 82, 83, 84, 85, 86, 87, 88, 89] (RB (fun W => ∃ l' : List Fed, OwnR TFe W w.heap.size (.slice (some ⟨go, 0, none⟩) l.length ocap) l' ∧ l'.length = l.length ∧ ∀ x ∈ l', FedOk x) w s (w9.heap.size) (c + 5000 + 900)) (RR (w9.heap.size)) (fun i => [VE (.pointer (some ⟨go, j * 6, none⟩)), VE (.pointer (some ⟨go, j * 6, none⟩)), VE (.pointer (some ⟨s, 0, none⟩)), VI (-1099511627777) 1099511627777, VE (.pointer (some ⟨s, 0, none⟩)), VE (.pointer (some ⟨go, j * 6, none⟩)), VE (.pointer (some ⟨go, j * 6, none⟩)), VE (.pointer (some ⟨go, j * 6 + 5, none⟩)), VSP BdOk, VLSP (w9.heap.size) BdOk 3, VSP BdOk, VE (.pointer (some ⟨go, j * 6, none⟩)), VE (.pointer (some ⟨go, j * 6 + 4, none⟩)), VT, VE (.pointer (some ⟨go, j * 6, none⟩)), VE (.pointer (some ⟨go, j * 6 + 5, none⟩)), VT].getD i VT) (by kernel_rfl) (by kernel_rfl) (fun u u' W hu h => h.mono hu) ?_ ?_ ?_ ?_ ?_
          · exact ⟨(hS9'.drew).mono (by show _ ≤ (c + 5000 + 900) - 10 * ((17 : Nat) : Int); omega), ⟨l, hO9, rfl, hB⟩, Nat.le_refl _, ⟨hG9'.os, hG9'.tape, hG9'.output, hG9'.size, hG9'.block⟩⟩
          · intro u W W' i v hB hR hV
            exact match i, hV with
              | 0, h => h
              | 1, h => h
              | 2, h => h
              | 3, h => h
              | 4, h => h
              | 5, h => h
              | 6, h => h
              | 7, h => h
              | 8, h => h
              | 9, h => VLSP.stab h hR
              | 10, h => h
              | 11, h => h
              | 12, h => h
              | 13, h => h
              | 14, h => h
              | 15, h => h
              | 16, h => h
              | (_ + 17), _ => trivial
          · intro i o v W ho hd
            match i, ho with
              | 0, ho => (obtain rfl := Option.some.inj ho; cases hd)
              | 1, ho => (obtain rfl := Option.some.inj ho; cases hd)
              | 2, ho => (obtain rfl := Option.some.inj ho; cases hd)
              | 3, ho => (obtain rfl := Option.some.inj ho; cases hd)
              | 4, ho => (obtain rfl := Option.some.inj ho; cases hd)
              | 5, ho => (obtain rfl := Option.some.inj ho; cases hd)
              | 6, ho => (obtain rfl := Option.some.inj ho; cases hd)
              | 7, ho => (obtain rfl := Option.some.inj ho; cases hd)
              | 8, ho => (obtain rfl := Option.some.inj ho; cases hd)
              | 9, ho => (obtain rfl := Option.some.inj ho; cases hd)
              | 10, ho => (obtain rfl := Option.some.inj ho; cases hd)
              | 11, ho => (obtain rfl := Option.some.inj ho; cases hd)
              | 12, ho => (obtain rfl := Option.some.inj ho; cases hd)
              | 13, ho => trivial
              | 14, ho => (obtain rfl := Option.some.inj ho; cases hd)
              | 15, ho => (obtain rfl := Option.some.inj ho; cases hd)
              | 16, ho => trivial
              | (_ + 17), _ => trivial
          · intro i o u f W ho hi hB hdep
            have hi' : i = 0 ∨ i = 1 ∨ i = 2 ∨ i = 3 ∨ i = 4 ∨ i = 5 ∨ i = 6 ∨ i = 7 ∨ i = 8 ∨ i = 9 ∨ i = 10 ∨ i = 11 ∨ i = 12 ∨ i = 13 ∨ i = 14 ∨ i = 15 ∨ i = 16 := by
              have : i < 17 := hi
              omega
            rcases hi' with rfl | rfl | rfl | rfl | rfl | rfl | rfl | rfl | rfl | rfl | rfl | rfl | rfl | rfl | rfl | rfl | rfl
            · refine iv_val ho (by obtain rfl := Option.some.inj ho; rfl) (.pointer (some ⟨go, j * 6, none⟩)) W ?_ (hB.below HK (Below.refl _ _)) (RR.refl _ _) rfl
              · intro q hq
                obtain rfl := Option.some.inj ho
                have e8 := hq.tmp 8
                simp at e8
                simp [execOp, e8, go_sem]
            · refine iv_val ho (by obtain rfl := Option.some.inj ho; rfl) (.pointer (some ⟨go, j * 6, none⟩)) W ?_ (hB.below HK (Below.refl _ _)) (RR.refl _ _) rfl
              · intro q hq
                obtain rfl := Option.some.inj ho
                have e8 := hq.tmp 8
                simp at e8
                simp [execOp, e8, go_sem]
            · refine iv_val ho (by obtain rfl := Option.some.inj ho; rfl) (.pointer (some ⟨s, 0, none⟩)) W ?_ (hB.below HK (Below.refl _ _)) (RR.refl _ _) rfl
              · intro q hq
                obtain rfl := Option.some.inj ho
                have e0 := hq.tmp 0
                simp at e0
                simp [execOp, e0, go_sem]
            · have d77 : f 77 = .pointer (some ⟨s, 0, none⟩) := hdep ⟨2, .data⟩ (by obtain rfl := Option.some.inj ho; simp) rfl
              refine iv_call ho (by obtain rfl := Option.some.inj ho; rfl) 44 #[.tmp 77, .const (.int .i64 (0)), .const (.int .i64 (100000))] _ (by obtain rfl := Option.some.inj ho; rfl) (enters_of Tryz.func44 (by kernel_rfl) rfl) #[.pointer (some ⟨s, 0, none⟩), .int .i64 (0), .int .i64 (100000)] (by intro q hq; have e77 := hq.tmp 77; simp at e77; simp [hq.const, e77, d77]) _ (Odd_any s _ (0) (100000) W hB.str (by omega) (by omega) (by omega) (by omega)) ?_
              rintro e W' ⟨r, rfl, hr, hs', hg'⟩
              exact ⟨_, rfl, hB.call HK hs' (by omega) hg', RR.of_gr hg' (by omega), ⟨r, rfl, by omega, by omega⟩⟩
            · refine iv_val ho (by obtain rfl := Option.some.inj ho; rfl) (.pointer (some ⟨s, 0, none⟩)) W ?_ (hB.below HK (Below.refl _ _)) (RR.refl _ _) rfl
              · intro q hq
                obtain rfl := Option.some.inj ho
                have e0 := hq.tmp 0
                simp at e0
                simp [execOp, e0, go_sem]
            · refine iv_val ho (by obtain rfl := Option.some.inj ho; rfl) (.pointer (some ⟨go, j * 6, none⟩)) W ?_ (hB.below HK (Below.refl _ _)) (RR.refl _ _) rfl
              · intro q hq
                obtain rfl := Option.some.inj ho
                have e8 := hq.tmp 8
                simp at e8
                simp [execOp, e8, go_sem]
            · have d80 : f 80 = .pointer (some ⟨go, j * 6, none⟩) := hdep ⟨5, .data⟩ (by obtain rfl := Option.some.inj ho; simp) rfl
              refine iv_val ho (by obtain rfl := Option.some.inj ho; rfl) (.pointer (some ⟨go, j * 6, none⟩)) W ?_ (hB.below HK (Below.refl _ _)) (RR.refl _ _) rfl
              · intro q hq
                obtain rfl := Option.some.inj ho
                have e80 := hq.tmp 80
                simp at e80
                simp [execOp, e80, d80, go_sem]
            · have d81 : f 81 = .pointer (some ⟨go, j * 6, none⟩) := hdep ⟨6, .data⟩ (by obtain rfl := Option.some.inj ho; simp) rfl
              refine iv_val ho (by obtain rfl := Option.some.inj ho; rfl) (.pointer (some ⟨go, j * 6 + 5, none⟩)) W ?_ (hB.below HK (Below.refl _ _)) (RR.refl _ _) rfl
              · intro q hq
                obtain rfl := Option.some.inj ho
                have e81 := hq.tmp 81
                simp at e81
                simp [execOp, e81, d81, go_sem]
            · have d82 : f 82 = .pointer (some ⟨go, j * 6 + 5, none⟩) := hdep ⟨7, .data⟩ (by obtain rfl := Option.some.inj ho; simp) rfl
              obtain ⟨l', hO', hn', hOk'⟩ := hB.own
              obtain ⟨x0, hx0⟩ : ∃ x, l'[j]? = some x := ⟨_, List.getElem?_eq_getElem (by omega)⟩
              have hok0 := hOk' _ (List.mem_of_getElem? hx0)
              have y0 : W.cell? ⟨go, j * 6 + 5, none⟩ = some (.string x0.2.2.2.2.2) := (OwnR.cellf TFe.ok hO' hn'.symm hx0 (fo := 5) rfl).1
              refine iv_val ho (by obtain rfl := Option.some.inj ho; rfl) (.string x0.2.2.2.2.2) W ?_ (hB.below HK (Below.refl _ _)) (RR.refl _ _) ⟨_, rfl, hok0.2.2.2.2.2⟩
              · intro q hq
                obtain rfl := Option.some.inj ho
                have e82 := hq.tmp 82
                simp at e82
                simp [execOp, e82, d82, go_sem, y0]
            · obtain ⟨x83, d83, p83⟩ : VSP BdOk (f 83) W := hdep ⟨8, .data⟩ (by obtain rfl := Option.some.inj ho; simp) rfl
              refine iv_val ho (by obtain rfl := Option.some.inj ho; rfl) (.slice (some ⟨W.heap.size, 0, none⟩) 3 3) (W.alloc (.cells #[.string x83, .string (⟨#[]⟩ : ByteArray), .string (⟨#[117, 49]⟩ : ByteArray)] 9)) ?_ (hB.below HK (Bl.alloc (Below.refl _ _) _)) (RR.of_below (Bl.alloc (Below.refl _ _) _)) ⟨[x83, (⟨#[]⟩ : ByteArray), (⟨#[117, 49]⟩ : ByteArray)], ⟨_, rfl⟩, rfl, RecR.of_blk (T := TS) (blk_new _ _) rfl rfl (by simp) (by omega) hB.size, ?_⟩
              · intro q hq
                obtain rfl := Option.some.inj ho
                have e83 := hq.tmp 83
                simp at e83
                simp [execOp, hq.const, e83, d83, go_sem]
              · intro x hx
                simp only [List.mem_cons, List.not_mem_nil, or_false] at hx
                rcases hx with rfl | rfl | rfl
                all_goals (first | assumption | exact bdOk_nil | exact bdOk_u1)
            · have d79 : f 79 = .pointer (some ⟨s, 0, none⟩) := hdep ⟨4, .data⟩ (by obtain rfl := Option.some.inj ho; simp) rfl
              obtain ⟨li, ⟨bi, d84⟩, hli, hri, hbi⟩ : VLSP (w9.heap.size) BdOk 3 (f 84) W := hdep ⟨9, .data⟩ (by obtain rfl := Option.some.inj ho; simp) rfl
              refine iv_call ho (by obtain rfl := Option.some.inj ho; rfl) 41 #[.tmp 79, .tmp 84] _ (by obtain rfl := Option.some.inj ho; rfl) (enters_of Tryz.func41 (by kernel_rfl) rfl) #[.pointer (some ⟨s, 0, none⟩), f 84] (by intro q hq; have e79 := hq.tmp 79; simp at e79; have e84 := hq.tmp 84; simp at e84; simp [e79, e84, d79]) _ (Some_any s _ li (f 84) W hB.str (by omega) (Rd.mono hri (by omega)) (by omega) (by omega)) ?_
              rintro e W' ⟨r, rfl, hr, hs', hg'⟩
              exact ⟨_, rfl, hB.call HK hs' (by omega) hg', RR.of_gr hg' (by omega), ⟨r, rfl, hbi r hr⟩⟩
            · have d75 : f 75 = .pointer (some ⟨go, j * 6, none⟩) := hdep ⟨0, .data⟩ (by obtain rfl := Option.some.inj ho; simp) rfl
              refine iv_val ho (by obtain rfl := Option.some.inj ho; rfl) (.pointer (some ⟨go, j * 6, none⟩)) W ?_ (hB.below HK (Below.refl _ _)) (RR.refl _ _) rfl
              · intro q hq
                obtain rfl := Option.some.inj ho
                have e75 := hq.tmp 75
                simp at e75
                simp [execOp, e75, d75, go_sem]
            · have d86 : f 86 = .pointer (some ⟨go, j * 6, none⟩) := hdep ⟨11, .data⟩ (by obtain rfl := Option.some.inj ho; simp) rfl
              refine iv_val ho (by obtain rfl := Option.some.inj ho; rfl) (.pointer (some ⟨go, j * 6 + 4, none⟩)) W ?_ (hB.below HK (Below.refl _ _)) (RR.refl _ _) rfl
              · intro q hq
                obtain rfl := Option.some.inj ho
                have e86 := hq.tmp 86
                simp at e86
                simp [execOp, e86, d86, go_sem]
            · have d87 : f 87 = .pointer (some ⟨go, j * 6 + 4, none⟩) := hdep ⟨12, .data⟩ (by obtain rfl := Option.some.inj ho; simp) rfl
              obtain ⟨x78, d78, p78, r78⟩ : VI (-1099511627777) 1099511627777 (f 78) W := hdep ⟨3, .data⟩ (by obtain rfl := Option.some.inj ho; simp) rfl
              obtain ⟨l', hO', hn', hOk'⟩ := hB.own
              obtain ⟨x0, hx0⟩ : ∃ x, l'[j]? = some x := ⟨_, List.getElem?_eq_getElem (by omega)⟩
              have hok0 := hOk' _ (List.mem_of_getElem? hx0)
              obtain ⟨y0, g0⟩ := OwnR.cellf TFe.ok hO' hn'.symm hx0 (fo := 4) rfl
              replace y0 : W.cell? ⟨go, j * 6 + 4, none⟩ = some (.int .i64 x0.2.2.2.2.1) := y0
              replace g0 : W.frozen? ⟨go, j * 6 + 4, none⟩ = false := g0
              have hO2 : OwnR TFe (W.setCell ⟨go, j * 6 + 4, none⟩ (.int .i64 x78)) w.heap.size (.slice (some ⟨go, 0, none⟩) l.length ocap) (l'.set j ((x0.1, x0.2.1, x0.2.2.1, x0.2.2.2.1, x78, x0.2.2.2.2.2))) := OwnR.setf TFe.ok hO' hn'.symm hx0 (fo := 4) (by decide) rfl
              refine iv_skip ho (by obtain rfl := Option.some.inj ho; rfl) (by obtain rfl := Option.some.inj ho; rfl) (W.setCell ⟨go, j * 6 + 4, none⟩ (.int .i64 x78)) ?_ (hB.store (by omega) ls ⟨_, hO2, by rw [List.length_set]; exact hn', ?_⟩) ⟨by simp, fun i h1 h2 => ?_⟩ trivial
              · intro q hq
                obtain rfl := Option.some.inj ho
                have e78 := hq.tmp 78
                have e87 := hq.tmp 87
                simp at e78 e87
                simp [execOp, e78, e87, d78, d87, go_sem, y0, g0]
              · intro x hx
                rcases List.mem_or_eq_of_mem_set hx with h | rfl
                · exact hOk' x h
                · exact ⟨hok0.1, hok0.2.1, hok0.2.2.1, hok0.2.2.2.1, ⟨p78, r78⟩, hok0.2.2.2.2.2⟩
              · exact Below.heap_setCell _ _ _ _ (by show i ≠ go; omega)
            · have d76 : f 76 = .pointer (some ⟨go, j * 6, none⟩) := hdep ⟨1, .data⟩ (by obtain rfl := Option.some.inj ho; simp) rfl
              refine iv_val ho (by obtain rfl := Option.some.inj ho; rfl) (.pointer (some ⟨go, j * 6, none⟩)) W ?_ (hB.below HK (Below.refl _ _)) (RR.refl _ _) rfl
              · intro q hq
                obtain rfl := Option.some.inj ho
                have e76 := hq.tmp 76
                simp at e76
                simp [execOp, e76, d76, go_sem]
            · have d88 : f 88 = .pointer (some ⟨go, j * 6, none⟩) := hdep ⟨14, .data⟩ (by obtain rfl := Option.some.inj ho; simp) rfl
              refine iv_val ho (by obtain rfl := Option.some.inj ho; rfl) (.pointer (some ⟨go, j * 6 + 5, none⟩)) W ?_ (hB.below HK (Below.refl _ _)) (RR.refl _ _) rfl
              · intro q hq
                obtain rfl := Option.some.inj ho
                have e88 := hq.tmp 88
                simp at e88
                simp [execOp, e88, d88, go_sem]
            · have d89 : f 89 = .pointer (some ⟨go, j * 6 + 5, none⟩) := hdep ⟨15, .data⟩ (by obtain rfl := Option.some.inj ho; simp) rfl
              obtain ⟨x85, d85, p85⟩ : VSP BdOk (f 85) W := hdep ⟨10, .data⟩ (by obtain rfl := Option.some.inj ho; simp) rfl
              obtain ⟨l', hO', hn', hOk'⟩ := hB.own
              obtain ⟨x0, hx0⟩ : ∃ x, l'[j]? = some x := ⟨_, List.getElem?_eq_getElem (by omega)⟩
              have hok0 := hOk' _ (List.mem_of_getElem? hx0)
              obtain ⟨y0, g0⟩ := OwnR.cellf TFe.ok hO' hn'.symm hx0 (fo := 5) rfl
              replace y0 : W.cell? ⟨go, j * 6 + 5, none⟩ = some (.string x0.2.2.2.2.2) := y0
              replace g0 : W.frozen? ⟨go, j * 6 + 5, none⟩ = false := g0
              have hO2 : OwnR TFe (W.setCell ⟨go, j * 6 + 5, none⟩ (.string x85)) w.heap.size (.slice (some ⟨go, 0, none⟩) l.length ocap) (l'.set j ((x0.1, x0.2.1, x0.2.2.1, x0.2.2.2.1, x0.2.2.2.2.1, x85))) := OwnR.setf TFe.ok hO' hn'.symm hx0 (fo := 5) (by decide) rfl
              refine iv_skip ho (by obtain rfl := Option.some.inj ho; rfl) (by obtain rfl := Option.some.inj ho; rfl) (W.setCell ⟨go, j * 6 + 5, none⟩ (.string x85)) ?_ (hB.store (by omega) ls ⟨_, hO2, by rw [List.length_set]; exact hn', ?_⟩) ⟨by simp, fun i h1 h2 => ?_⟩ trivial
              · intro q hq
                obtain rfl := Option.some.inj ho
                have e85 := hq.tmp 85
                have e89 := hq.tmp 89
                simp at e85 e89
                simp [execOp, e85, e89, d85, d89, go_sem, y0, g0]
              · intro x hx
                rcases List.mem_or_eq_of_mem_set hx with h | rfl
                · exact hOk' x h
                · exact ⟨hok0.1, hok0.2.1, hok0.2.2.1, hok0.2.2.2.1, hok0.2.2.2.2.1, p85⟩
              · exact Below.heap_setCell _ _ _ _ (by show i ≠ go; omega)
          intro f wz hB' hV
          unfold putsA
          simp only [List.mapIdx_toArray, List.mapIdx_cons, List.mapIdx_nil, List.contains_cons]
          simp
          clear hV HK hO9 hS9' hG9'
          obtain ⟨hSz, ⟨lz, hOz, hnz, hokz⟩, _, hGz⟩ := hB'
          have HF := Lib.hid (And.intro hOz (And.intro hokz (And.intro (hSz.mono (d := c + 6000) (by omega)) hGz)))
          have hlz : lz.length ≤ 15 := by omega
          clear hOz hSz hGz hokz
          go_wp2
          go_ret
          exact ⟨_, lz, rfl, HF.out.1, hlz, HF.out.2.1, HF.out.2.2.1, HF.out.2.2.2⟩
end Go.Proofs.YtilhonppgedoiaaGreatDoor
