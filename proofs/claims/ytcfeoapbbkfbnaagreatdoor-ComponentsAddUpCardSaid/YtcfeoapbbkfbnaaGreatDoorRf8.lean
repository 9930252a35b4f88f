/- WantList of the random stream. Conditions: the stream's count below 9*10^5. · ReelList of the random stream. Conditions: the stream's count below 9*10^5. -/
import Derived.Test.YtcfeoapbbkfbnaaGreatDoorReB
import Derived.Test.YtcfeoapbbkfbnaaGreatDoorStrs
import Derived.Test.YtcfeoapbbkfbnaaGreatDoorInvS
import Derived.Test.YtcfeoapbbkfbnaaGreatDoorRe1
namespace Go.Proofs.YtcfeoapbbkfbnaaGreatDoor
open Go.RowKit Go.Sort

/-- wants whose strings are short. -/
def WntOk (x : Wnt) : Prop := x.1.size ≤ 5 ∧ x.2.size ≤ 5
set_option maxHeartbeats 8000000 in
set_option maxRecDepth 100000 in
theorem WantList_any (s : Nat) (c : Int) (w : World) (h : Str w s c) (hc : c ≤ 900000) :
    Calls Tryz.prog 13 #[.pointer (some ⟨s, 0, none⟩)] w fun e w' => ∃ v l, e = .returned v ∧ OwnR TWn w' w.heap.size v l ∧ (l.length ≤ 3 ∧ 0 ≤ l.length) ∧ (∀ x ∈ l, WntOk x) ∧ Str w' s (c + 6000) ∧ w.grownBy w' (some s) := by
  have ls := h.lt
  have HNM : Hid (∀ (W : World), W.heap[w.heap.size]? = some (.cells #[.string ⟨#[102, 49]⟩, .string ⟨#[102, 50]⟩, .string ⟨#[102, 51]⟩] 9 (0, 0)) → ∀ k : Nat, k < 3 → ∃ nm : ByteArray, W.cell? ⟨w.heap.size, k, none⟩ = some (.string nm) ∧ nm.size ≤ 5) := Lib.hid fun W hW k hk => by
    have hk' : k = 0 ∨ k = 1 ∨ k = 2 := by omega
    rcases hk' with rfl | rfl | rfl
    · exact ⟨_, blk_cell hW 0, by decide⟩
    · exact ⟨_, blk_cell hW 1, by decide⟩
    · exact ⟨_, blk_cell hW 2, by decide⟩
  go_enter Tryz.func13, Tryz.ntmps13
  go_wp2_with fail
  refine (Range_any s c 0 3 _ (h.alloc _) (by omega) (by omega) (by omega) (by omega) (by omega)).mono ?_
  rintro e w1 ⟨n, rfl, ⟨hn0, hn1, _⟩, hS1, hG1⟩
  have hn2 := hn1 (by omega)
  clear hn1
  obtain ⟨n, rfl⟩ := Int.eq_ofNat_of_zero_le (show 0 ≤ n by omega)
  have hL1 := Gr.blk hG1 (blk_new w _) (by omega)
  have hz1 := hG1.size
  simp at hz1
  have hG1' := Gr.trans (Gr.alloc (Gr.refl w (some s)) _) hG1
  clear hG1
  have j1 : (0 : Int) ≤ (n : Int) := by omega
  have j2 : ¬ 3 < n := by omega
  have j3 : n ≤ 3 := by omega
  go_wp2_with fail
  go_loopw [3, 12] (fun v i wr => ∃ (k : Nat) (l : List Wnt), k ≤ n ∧ i = .int .i64 k ∧ OwnR TWn wr (w.heap.size + 1) v l ∧ Hid (l.length = k) ∧ (∀ x ∈ l, WntOk x) ∧ Str wr s (c + 1 + 200 * k) ∧ Hid (wr.heap[w.heap.size]? = some (.cells #[.string ⟨#[102, 49]⟩, .string ⟨#[102, 50]⟩, .string ⟨#[102, 51]⟩] 9 (0, 0))) ∧ w.grownBy wr (some s) ∧ w.heap.size < wr.heap.size) (fun _ i _ => n - (intOf i).toNat)
  case atStart => exact ⟨0, [], Nat.zero_le _, rfl, OwnR.nil _ _, Lib.hid rfl, by simp, hS1.mono (by omega), Lib.hid hL1, hG1', by omega⟩
  case round =>
    obtain ⟨k, l, hk, rfl, hO, hl, hB, hS, HL, hG, hz0⟩ := hrel
    obtain ⟨oa, ocap, rfl, _, _⟩ := hO.form
    by_cases hlt : k < n
    · obtain ⟨nm, cn, hnm⟩ := HNM.out wr HL.out k (by omega)
      go_wp2_with fail
      refine (Some_any s _ [⟨#[97]⟩, ⟨#[97]⟩, ⟨#[98]⟩] _ _ (hS.alloc _) (by omega) (RecR.of_blk (T := TS) (blk_new _ _) rfl rfl (by simp) (by omega) hS.lt) (by simp) (by simp)).mono ?_
      rintro e w2 ⟨pt, rfl, hpt, hS2, hG2⟩
      have hpt5 : pt.size ≤ 5 := by have := List.all_eq_true.1 (show ([⟨#[97]⟩, ⟨#[97]⟩, ⟨#[98]⟩].all fun x : ByteArray => decide (x.size ≤ 5)) = true by decide) pt hpt; simpa using this
      have hO2 := (hO.alloc (.cells #[.string ⟨#[97]⟩, .string ⟨#[97]⟩, .string ⟨#[98]⟩] 9)).grown hG2 (show s < w.heap.size + 1 by omega)
      have hL2 := Gr.blk hG2 (blk_old HL.out _) (by omega)
      have hG2' := Gr.trans (Gr.alloc hG _) hG2
      have hz2 := hG2.size
      simp at hz2
      clear hO hG2 hS cn hpt HL
      have hwk : IntKind.i64.wrap ((k : Int) + 1) = ((k + 1 : Nat) : Int) := by rw [IntWalk.i64_in _ (by omega)]; omega
      have hll : l.length ≤ 1000000 := by rw [hl.out]; omega
      have HNEW : Hid (∀ x ∈ l ++ [((nm, pt) : Wnt)], WntOk x) := Lib.hid (by
        intro x hx
        rcases List.mem_append.1 hx with h | h
        · exact hB x h
        · rw [List.mem_singleton] at h
          subst h
          exact ⟨hnm, hpt5⟩)
      go_wp2_with (at_builtin; refine wp_app_rec TWn.ok rfl _ _ rfl (w.heap.size + 1) _ l rfl (hO2.alloc _) w2.heap.size 1 (nm, pt) rfl (blk_new' _ _ (by simp)) rfl hll (by simp; omega) ?_)
      intro v9 w9 hO9 hA9 hb9
      have hS9 := (hS2.alloc (.cells #[.string nm, .string pt] 106)).belowB hb9 (show s < w.heap.size + 1 by omega)
      have hG9 := Gr.app (Gr.alloc hG2' (.cells #[.string nm, .string pt] 106)) (hO2.alloc _) hA9 (show w.heap.size ≤ w.heap.size + 1 by omega)
      have hL9 := (hb9.block w.heap.size (by omega)).trans (blk_old hL2 (.cells #[.string nm, .string pt] 106))
      have hz9 := hb9.size
      simp at hz9
      have HF := Lib.hid (And.intro hO9 (And.intro (hS9.mono (d := c + 1 + 200 * ((k + 1 : Nat) : Int)) (by omega)) (And.intro hG9 hL9)))
      clear hO9 hS9 hG9 hA9 hb9 hS2 hG2' hO2 hL2
      go_wp2
      go_roundw
      case rel => exact ⟨k + 1, l ++ [(nm, pt)], by omega, by go_num, HF.out.1, Lib.hid (by rw [List.length_append, hl.out]; rfl), HNEW.out, HF.out.2.1, Lib.hid HF.out.2.2.2, HF.out.2.2.1, by omega⟩
      case measure => simp [intOf]; omega
    · obtain rfl : k = n := by omega
      replace hO := hO.base (show w.heap.size ≤ w.heap.size + 1 by omega)
      have hl24 : l.length ≤ 3 ∧ 0 ≤ l.length := by have := hl.out; omega
      have HLL := Lib.hid (And.intro hO (And.intro hl.out (And.intro hB (And.intro (hS.mono (d := c + 6000) (by omega)) hG))))
      by_cases h0 : l.length = 0
      · obtain rfl := List.eq_nil_of_length_eq_zero h0
        clear hO hS hB
        go_wp2
        go_ret
        exact ⟨_, [], rfl, HLL.out.1, by simp, by simp, HLL.out.2.2.2.1, HLL.out.2.2.2.2⟩
      have h0' : (0 : Int) < (l.length : Int) := by omega
      have hlpos : l ≠ [] := fun e => h0 (by rw [e]; rfl)
      obtain ⟨go, cap, cur, hoa, hgo, hgb, hcl, _⟩ := hO.blk hlpos
      injection hoa with hoa1 _ hoa2
      subst hoa1 hoa2
      clear hgb
      go_wp2_with fail
      refine (Flip_any s _ 15 wr hS (by omega) (by omega)).mono ?_
      rintro e w8 ⟨fl, rfl, hS8, hG8⟩
      have hO8 := hO.grown hG8 ls
      have hG8' := Gr.trans hG hG8
      clear hO hS hG8
      cases fl
      · have HF := Lib.hid (And.intro hO8 (And.intro (hS8.mono (d := c + 6000) (by omega)) hG8'))
        clear hO8 hS8 hG8'
        go_wp2
        go_ret
        exact ⟨_, l, rfl, HF.out.1, by omega, hB, HF.out.2.1, HF.out.2.2⟩
      · go_wp2_with fail
        refine (Next_any s _ l.length w8 hS8 (by omega) (by omega)).mono ?_
        rintro e w9 ⟨j, rfl, ⟨hj0, hj1, _⟩, hS9, hG9⟩
        have hj2 := hj1 (by omega)
        clear hj1
        obtain ⟨j, rfl⟩ := Int.eq_ofNat_of_zero_le hj0
        have hO9 := hO8.grown hG9 ls
        have hG9' := Gr.trans hG8' hG9
        have hgo9 : go < w9.heap.size := by
          have := (World.ownsRow.lt hO9 go rfl).2
          exact this
        have hjn : j < l.length := by omega
        have hS9' := hS9.mono (d := c + 5000 + 300) (by omega)
        clear hO8 hS8 hG8' hG9 hS9
        have HK : OwnK (fun W => ∃ l' : List Wnt, OwnR TWn W w.heap.size (.slice (some ⟨go, 0, none⟩) l.length ocap) l' ∧ l'.length = l.length ∧ ∀ x ∈ l', WntOk x) s := ⟨fun W W' h hb => (by obtain ⟨l', h1, h2⟩ := h; exact ⟨l', h1.below hb, h2⟩), fun W W' h hg => (by obtain ⟨l', h1, h2⟩ := h; exact ⟨l', h1.grown hg ls, h2⟩)⟩
        go_wp2
        refine wp_region_inv (by kernel_rfl) [38, 39, 40, 41, 42, 43, 44, 45, 46, 47, 48, 49, 50, 51, 52, 53, 54, 55, 56, 57] (RB (fun W => ∃ l' : List Wnt, OwnR TWn W w.heap.size (.slice (some ⟨go, 0, none⟩) l.length ocap) l' ∧ l'.length = l.length ∧ ∀ x ∈ l', WntOk x) w s (w9.heap.size) (c + 5000 + 900)) (RR (w9.heap.size)) (fun i => [VE (.pointer (some ⟨go, j * 2, none⟩)), VE (.pointer (some ⟨go, j * 2, none⟩)), VE (.pointer (some ⟨s, 0, none⟩)), VE (.pointer (some ⟨go, j * 2, none⟩)), VE (.pointer (some ⟨go, j * 2, none⟩)), VE (.pointer (some ⟨go, j * 2, none⟩)), VS 5, VLS (w9.heap.size) 5 3, VS 5, VE (.pointer (some ⟨s, 0, none⟩)), VE (.pointer (some ⟨go, j * 2, none⟩)), VE (.pointer (some ⟨go, j * 2, none⟩)), VE (.pointer (some ⟨go, j * 2 + 1, none⟩)), VS 5, VLS (w9.heap.size) 5 2, VS 5, VE (.pointer (some ⟨go, j * 2, none⟩)), VE (.pointer (some ⟨go, j * 2, none⟩)), VT, VE (.pointer (some ⟨go, j * 2, none⟩)), VE (.pointer (some ⟨go, j * 2 + 1, none⟩)), VT].getD i VT) (by kernel_rfl) (by kernel_rfl) (fun u u' W hu h => h.mono hu) ?_ ?_ ?_ ?_ ?_
        · exact ⟨(hS9'.drew).mono (by show _ ≤ (c + 5000 + 900) - 10 * ((22 : Nat) : Int); omega), ⟨l, hO9, rfl, hB⟩, Nat.le_refl _, ⟨hG9'.os, hG9'.tape, hG9'.output, hG9'.size, hG9'.block⟩⟩
        · intro u W W' i v hB hR hV
          exact match i, hV with
            | 0, h => h
            | 1, h => h
            | 2, h => h
            | 3, h => h
            | 4, h => h
            | 5, h => h
            | 6, h => h
            | 7, h => VLS.stab h hR
            | 8, h => h
            | 9, h => h
            | 10, h => h
            | 11, h => h
            | 12, h => h
            | 13, h => h
            | 14, h => VLS.stab h hR
            | 15, h => h
            | 16, h => h
            | 17, h => h
            | 18, h => h
            | 19, h => h
            | 20, h => h
            | 21, h => h
            | (_ + 22), _ => trivial
        · intro i o v W ho hd
          match i, ho with
            | 0, ho => (obtain rfl := Option.some.inj ho; cases hd)
            | 1, ho => (obtain rfl := Option.some.inj ho; cases hd)
            | 2, ho => (obtain rfl := Option.some.inj ho; cases hd)
            | 3, ho => (obtain rfl := Option.some.inj ho; cases hd)
            | 4, ho => (obtain rfl := Option.some.inj ho; cases hd)
            | 5, ho => (obtain rfl := Option.some.inj ho; cases hd)
            | 6, ho => (obtain rfl := Option.some.inj ho; cases hd)
            | 7, ho => (obtain rfl := Option.some.inj ho; cases hd)
            | 8, ho => (obtain rfl := Option.some.inj ho; cases hd)
            | 9, ho => (obtain rfl := Option.some.inj ho; cases hd)
            | 10, ho => (obtain rfl := Option.some.inj ho; cases hd)
            | 11, ho => (obtain rfl := Option.some.inj ho; cases hd)
            | 12, ho => (obtain rfl := Option.some.inj ho; cases hd)
            | 13, ho => (obtain rfl := Option.some.inj ho; cases hd)
            | 14, ho => (obtain rfl := Option.some.inj ho; cases hd)
            | 15, ho => (obtain rfl := Option.some.inj ho; cases hd)
            | 16, ho => (obtain rfl := Option.some.inj ho; cases hd)
            | 17, ho => (obtain rfl := Option.some.inj ho; cases hd)
            | 18, ho => trivial
            | 19, ho => (obtain rfl := Option.some.inj ho; cases hd)
            | 20, ho => (obtain rfl := Option.some.inj ho; cases hd)
            | 21, ho => trivial
            | (_ + 22), _ => trivial
        · intro i o u f W ho hi hB hdep
          have hi' : i = 0 ∨ i = 1 ∨ i = 2 ∨ i = 3 ∨ i = 4 ∨ i = 5 ∨ i = 6 ∨ i = 7 ∨ i = 8 ∨ i = 9 ∨ i = 10 ∨ i = 11 ∨ i = 12 ∨ i = 13 ∨ i = 14 ∨ i = 15 ∨ i = 16 ∨ i = 17 ∨ i = 18 ∨ i = 19 ∨ i = 20 ∨ i = 21 := by
            have : i < 22 := hi
            omega
          rcases hi' with rfl | rfl | rfl | rfl | rfl | rfl | rfl | rfl | rfl | rfl | rfl | rfl | rfl | rfl | rfl | rfl | rfl | rfl | rfl | rfl | rfl | rfl
          · refine iv_val ho (by obtain rfl := Option.some.inj ho; rfl) (.pointer (some ⟨go, j * 2, none⟩)) W ?_ (hB.below HK (Below.refl _ _)) (RR.refl _ _) rfl
            · intro q hq
              obtain rfl := Option.some.inj ho
              have e6 := hq.tmp 6
              simp at e6
              simp [execOp, e6, go_sem]
          · refine iv_val ho (by obtain rfl := Option.some.inj ho; rfl) (.pointer (some ⟨go, j * 2, none⟩)) W ?_ (hB.below HK (Below.refl _ _)) (RR.refl _ _) rfl
            · intro q hq
              obtain rfl := Option.some.inj ho
              have e6 := hq.tmp 6
              simp at e6
              simp [execOp, e6, go_sem]
          · refine iv_val ho (by obtain rfl := Option.some.inj ho; rfl) (.pointer (some ⟨s, 0, none⟩)) W ?_ (hB.below HK (Below.refl _ _)) (RR.refl _ _) rfl
            · intro q hq
              obtain rfl := Option.some.inj ho
              have e0 := hq.tmp 0
              simp at e0
              simp [execOp, e0, go_sem]
          · refine iv_val ho (by obtain rfl := Option.some.inj ho; rfl) (.pointer (some ⟨go, j * 2, none⟩)) W ?_ (hB.below HK (Below.refl _ _)) (RR.refl _ _) rfl
            · intro q hq
              obtain rfl := Option.some.inj ho
              have e6 := hq.tmp 6
              simp at e6
              simp [execOp, e6, go_sem]
          · have d41 : f 41 = .pointer (some ⟨go, j * 2, none⟩) := hdep ⟨3, .data⟩ (by obtain rfl := Option.some.inj ho; simp) rfl
            refine iv_val ho (by obtain rfl := Option.some.inj ho; rfl) (.pointer (some ⟨go, j * 2, none⟩)) W ?_ (hB.below HK (Below.refl _ _)) (RR.refl _ _) rfl
            · intro q hq
              obtain rfl := Option.some.inj ho
              have e41 := hq.tmp 41
              simp at e41
              simp [execOp, e41, d41, go_sem]
          · have d42 : f 42 = .pointer (some ⟨go, j * 2, none⟩) := hdep ⟨4, .data⟩ (by obtain rfl := Option.some.inj ho; simp) rfl
            refine iv_val ho (by obtain rfl := Option.some.inj ho; rfl) (.pointer (some ⟨go, j * 2, none⟩)) W ?_ (hB.below HK (Below.refl _ _)) (RR.refl _ _) rfl
            · intro q hq
              obtain rfl := Option.some.inj ho
              have e42 := hq.tmp 42
              simp at e42
              simp [execOp, e42, d42, go_sem]
          · have d43 : f 43 = .pointer (some ⟨go, j * 2, none⟩) := hdep ⟨5, .data⟩ (by obtain rfl := Option.some.inj ho; simp) rfl
            obtain ⟨l', hO', hn', hOk'⟩ := hB.own
            obtain ⟨x0, hx0⟩ : ∃ x, l'[j]? = some x := ⟨_, List.getElem?_eq_getElem (by omega)⟩
            have hok0 := hOk' _ (List.mem_of_getElem? hx0)
            have y0 : W.cell? ⟨go, j * 2, none⟩ = some (.string x0.1) := (OwnR.cellf TWn.ok hO' hn'.symm hx0 (fo := 0) rfl).1
            refine iv_val ho (by obtain rfl := Option.some.inj ho; rfl) (.string x0.1) W ?_ (hB.below HK (Below.refl _ _)) (RR.refl _ _) ⟨_, rfl, hok0.1⟩
            · intro q hq
              obtain rfl := Option.some.inj ho
              have e43 := hq.tmp 43
              simp at e43
              simp [execOp, e43, d43, go_sem, y0]
          · obtain ⟨x44, d44, p44⟩ : VS 5 (f 44) W := hdep ⟨6, .data⟩ (by obtain rfl := Option.some.inj ho; simp) rfl
            refine iv_val ho (by obtain rfl := Option.some.inj ho; rfl) (.slice (some ⟨W.heap.size, 0, none⟩) 3 3) (W.alloc (.cells #[.string x44, .string (⟨#[]⟩ : ByteArray), .string (⟨#[102, 49]⟩ : ByteArray)] 9)) ?_ (hB.below HK (Bl.alloc (Below.refl _ _) _)) (RR.of_below (Bl.alloc (Below.refl _ _) _)) ⟨[x44, (⟨#[]⟩ : ByteArray), (⟨#[102, 49]⟩ : ByteArray)], ⟨_, rfl⟩, rfl, RecR.of_blk (T := TS) (blk_new _ _) rfl rfl (by simp) (by omega) hB.size, ?_⟩
            · intro q hq
              obtain rfl := Option.some.inj ho
              have e44 := hq.tmp 44
              simp at e44
              simp [execOp, hq.const, e44, d44, go_sem]
            · intro x hx
              simp only [List.mem_cons, List.not_mem_nil, or_false] at hx
              rcases hx with rfl | rfl | rfl
              all_goals (first | assumption | (show _ ≤ 5; decide))
          · have d40 : f 40 = .pointer (some ⟨s, 0, none⟩) := hdep ⟨2, .data⟩ (by obtain rfl := Option.some.inj ho; simp) rfl
            obtain ⟨li, ⟨bi, d45⟩, hli, hri, hbi⟩ : VLS (w9.heap.size) 5 3 (f 45) W := hdep ⟨7, .data⟩ (by obtain rfl := Option.some.inj ho; simp) rfl
            refine iv_call ho (by obtain rfl := Option.some.inj ho; rfl) 10 #[.tmp 40, .tmp 45] _ (by obtain rfl := Option.some.inj ho; rfl) (enters_of Tryz.func10 (by kernel_rfl) rfl) #[.pointer (some ⟨s, 0, none⟩), f 45] (by intro q hq; have e40 := hq.tmp 40; simp at e40; have e45 := hq.tmp 45; simp at e45; simp [e40, e45, d40]) _ (Some_any s _ li (f 45) W hB.str (by omega) (Rd.mono hri (by omega)) (by omega) (by omega)) ?_
            rintro e W' ⟨r, rfl, hr, hs', hg'⟩
            exact ⟨_, rfl, hB.call HK hs' (by omega) hg', RR.of_gr hg' (by omega), ⟨r, rfl, hbi r hr⟩⟩
          · refine iv_val ho (by obtain rfl := Option.some.inj ho; rfl) (.pointer (some ⟨s, 0, none⟩)) W ?_ (hB.below HK (Below.refl _ _)) (RR.refl _ _) rfl
            · intro q hq
              obtain rfl := Option.some.inj ho
              have e0 := hq.tmp 0
              simp at e0
              simp [execOp, e0, go_sem]
          · refine iv_val ho (by obtain rfl := Option.some.inj ho; rfl) (.pointer (some ⟨go, j * 2, none⟩)) W ?_ (hB.below HK (Below.refl _ _)) (RR.refl _ _) rfl
            · intro q hq
              obtain rfl := Option.some.inj ho
              have e6 := hq.tmp 6
              simp at e6
              simp [execOp, e6, go_sem]
          · have d48 : f 48 = .pointer (some ⟨go, j * 2, none⟩) := hdep ⟨10, .data⟩ (by obtain rfl := Option.some.inj ho; simp) rfl
            refine iv_val ho (by obtain rfl := Option.some.inj ho; rfl) (.pointer (some ⟨go, j * 2, none⟩)) W ?_ (hB.below HK (Below.refl _ _)) (RR.refl _ _) rfl
            · intro q hq
              obtain rfl := Option.some.inj ho
              have e48 := hq.tmp 48
              simp at e48
              simp [execOp, e48, d48, go_sem]
          · have d49 : f 49 = .pointer (some ⟨go, j * 2, none⟩) := hdep ⟨11, .data⟩ (by obtain rfl := Option.some.inj ho; simp) rfl
            refine iv_val ho (by obtain rfl := Option.some.inj ho; rfl) (.pointer (some ⟨go, j * 2 + 1, none⟩)) W ?_ (hB.below HK (Below.refl _ _)) (RR.refl _ _) rfl
            · intro q hq
              obtain rfl := Option.some.inj ho
              have e49 := hq.tmp 49
              simp at e49
              simp [execOp, e49, d49, go_sem]
          · have d50 : f 50 = .pointer (some ⟨go, j * 2 + 1, none⟩) := hdep ⟨12, .data⟩ (by obtain rfl := Option.some.inj ho; simp) rfl
            obtain ⟨l', hO', hn', hOk'⟩ := hB.own
            obtain ⟨x0, hx0⟩ : ∃ x, l'[j]? = some x := ⟨_, List.getElem?_eq_getElem (by omega)⟩
            have hok0 := hOk' _ (List.mem_of_getElem? hx0)
            have y0 : W.cell? ⟨go, j * 2 + 1, none⟩ = some (.string x0.2) := (OwnR.cellf TWn.ok hO' hn'.symm hx0 (fo := 1) rfl).1
            refine iv_val ho (by obtain rfl := Option.some.inj ho; rfl) (.string x0.2) W ?_ (hB.below HK (Below.refl _ _)) (RR.refl _ _) ⟨_, rfl, hok0.2⟩
            · intro q hq
              obtain rfl := Option.some.inj ho
              have e50 := hq.tmp 50
              simp at e50
              simp [execOp, e50, d50, go_sem, y0]
          · obtain ⟨x51, d51, p51⟩ : VS 5 (f 51) W := hdep ⟨13, .data⟩ (by obtain rfl := Option.some.inj ho; simp) rfl
            refine iv_val ho (by obtain rfl := Option.some.inj ho; rfl) (.slice (some ⟨W.heap.size, 0, none⟩) 2 2) (W.alloc (.cells #[.string x51, .string (⟨#[]⟩ : ByteArray)] 9)) ?_ (hB.below HK (Bl.alloc (Below.refl _ _) _)) (RR.of_below (Bl.alloc (Below.refl _ _) _)) ⟨[x51, (⟨#[]⟩ : ByteArray)], ⟨_, rfl⟩, rfl, RecR.of_blk (T := TS) (blk_new _ _) rfl rfl (by simp) (by omega) hB.size, ?_⟩
            · intro q hq
              obtain rfl := Option.some.inj ho
              have e51 := hq.tmp 51
              simp at e51
              simp [execOp, hq.const, e51, d51, go_sem]
            · intro x hx
              simp only [List.mem_cons, List.not_mem_nil, or_false] at hx
              rcases hx with rfl | rfl
              all_goals (first | assumption | (show _ ≤ 5; decide))
          · have d47 : f 47 = .pointer (some ⟨s, 0, none⟩) := hdep ⟨9, .data⟩ (by obtain rfl := Option.some.inj ho; simp) rfl
            obtain ⟨li, ⟨bi, d52⟩, hli, hri, hbi⟩ : VLS (w9.heap.size) 5 2 (f 52) W := hdep ⟨14, .data⟩ (by obtain rfl := Option.some.inj ho; simp) rfl
            refine iv_call ho (by obtain rfl := Option.some.inj ho; rfl) 10 #[.tmp 47, .tmp 52] _ (by obtain rfl := Option.some.inj ho; rfl) (enters_of Tryz.func10 (by kernel_rfl) rfl) #[.pointer (some ⟨s, 0, none⟩), f 52] (by intro q hq; have e47 := hq.tmp 47; simp at e47; have e52 := hq.tmp 52; simp at e52; simp [e47, e52, d47]) _ (Some_any s _ li (f 52) W hB.str (by omega) (Rd.mono hri (by omega)) (by omega) (by omega)) ?_
            rintro e W' ⟨r, rfl, hr, hs', hg'⟩
            exact ⟨_, rfl, hB.call HK hs' (by omega) hg', RR.of_gr hg' (by omega), ⟨r, rfl, hbi r hr⟩⟩
          · have d38 : f 38 = .pointer (some ⟨go, j * 2, none⟩) := hdep ⟨0, .data⟩ (by obtain rfl := Option.some.inj ho; simp) rfl
            refine iv_val ho (by obtain rfl := Option.some.inj ho; rfl) (.pointer (some ⟨go, j * 2, none⟩)) W ?_ (hB.below HK (Below.refl _ _)) (RR.refl _ _) rfl
            · intro q hq
              obtain rfl := Option.some.inj ho
              have e38 := hq.tmp 38
              simp at e38
              simp [execOp, e38, d38, go_sem]
          · have d54 : f 54 = .pointer (some ⟨go, j * 2, none⟩) := hdep ⟨16, .data⟩ (by obtain rfl := Option.some.inj ho; simp) rfl
            refine iv_val ho (by obtain rfl := Option.some.inj ho; rfl) (.pointer (some ⟨go, j * 2, none⟩)) W ?_ (hB.below HK (Below.refl _ _)) (RR.refl _ _) rfl
            · intro q hq
              obtain rfl := Option.some.inj ho
              have e54 := hq.tmp 54
              simp at e54
              simp [execOp, e54, d54, go_sem]
          · have d55 : f 55 = .pointer (some ⟨go, j * 2, none⟩) := hdep ⟨17, .data⟩ (by obtain rfl := Option.some.inj ho; simp) rfl
            obtain ⟨x46, d46, p46⟩ : VS 5 (f 46) W := hdep ⟨8, .data⟩ (by obtain rfl := Option.some.inj ho; simp) rfl
            obtain ⟨l', hO', hn', hOk'⟩ := hB.own
            obtain ⟨x0, hx0⟩ : ∃ x, l'[j]? = some x := ⟨_, List.getElem?_eq_getElem (by omega)⟩
            have hok0 := hOk' _ (List.mem_of_getElem? hx0)
            obtain ⟨y0, g0⟩ := OwnR.cellf TWn.ok hO' hn'.symm hx0 (fo := 0) rfl
            replace y0 : W.cell? ⟨go, j * 2, none⟩ = some (.string x0.1) := y0
            replace g0 : W.frozen? ⟨go, j * 2, none⟩ = false := g0
            have hO2 : OwnR TWn (W.setCell ⟨go, j * 2, none⟩ (.string x46)) w.heap.size (.slice (some ⟨go, 0, none⟩) l.length ocap) (l'.set j ((x46, x0.2))) := OwnR.setf TWn.ok hO' hn'.symm hx0 (fo := 0) (by decide) rfl
            refine iv_skip ho (by obtain rfl := Option.some.inj ho; rfl) (by obtain rfl := Option.some.inj ho; rfl) (W.setCell ⟨go, j * 2, none⟩ (.string x46)) ?_ (hB.store (by omega) ls ⟨_, hO2, by rw [List.length_set]; exact hn', ?_⟩) ⟨by simp, fun i h1 h2 => ?_⟩ trivial
            · intro q hq
              obtain rfl := Option.some.inj ho
              have e46 := hq.tmp 46
              have e55 := hq.tmp 55
              simp at e46 e55
              simp [execOp, e46, e55, d46, d55, go_sem, y0, g0]
            · intro x hx
              rcases List.mem_or_eq_of_mem_set hx with h | rfl
              · exact hOk' x h
              · exact ⟨p46, hok0.2⟩
            · exact Below.heap_setCell _ _ _ _ (by show i ≠ go; omega)
          · have d39 : f 39 = .pointer (some ⟨go, j * 2, none⟩) := hdep ⟨1, .data⟩ (by obtain rfl := Option.some.inj ho; simp) rfl
            refine iv_val ho (by obtain rfl := Option.some.inj ho; rfl) (.pointer (some ⟨go, j * 2, none⟩)) W ?_ (hB.below HK (Below.refl _ _)) (RR.refl _ _) rfl
            · intro q hq
              obtain rfl := Option.some.inj ho
              have e39 := hq.tmp 39
              simp at e39
              simp [execOp, e39, d39, go_sem]
          · have d56 : f 56 = .pointer (some ⟨go, j * 2, none⟩) := hdep ⟨19, .data⟩ (by obtain rfl := Option.some.inj ho; simp) rfl
            refine iv_val ho (by obtain rfl := Option.some.inj ho; rfl) (.pointer (some ⟨go, j * 2 + 1, none⟩)) W ?_ (hB.below HK (Below.refl _ _)) (RR.refl _ _) rfl
            · intro q hq
              obtain rfl := Option.some.inj ho
              have e56 := hq.tmp 56
              simp at e56
              simp [execOp, e56, d56, go_sem]
          · have d57 : f 57 = .pointer (some ⟨go, j * 2 + 1, none⟩) := hdep ⟨20, .data⟩ (by obtain rfl := Option.some.inj ho; simp) rfl
            obtain ⟨x53, d53, p53⟩ : VS 5 (f 53) W := hdep ⟨15, .data⟩ (by obtain rfl := Option.some.inj ho; simp) rfl
            obtain ⟨l', hO', hn', hOk'⟩ := hB.own
            obtain ⟨x0, hx0⟩ : ∃ x, l'[j]? = some x := ⟨_, List.getElem?_eq_getElem (by omega)⟩
            have hok0 := hOk' _ (List.mem_of_getElem? hx0)
            obtain ⟨y0, g0⟩ := OwnR.cellf TWn.ok hO' hn'.symm hx0 (fo := 1) rfl
            replace y0 : W.cell? ⟨go, j * 2 + 1, none⟩ = some (.string x0.2) := y0
            replace g0 : W.frozen? ⟨go, j * 2 + 1, none⟩ = false := g0
            have hO2 : OwnR TWn (W.setCell ⟨go, j * 2 + 1, none⟩ (.string x53)) w.heap.size (.slice (some ⟨go, 0, none⟩) l.length ocap) (l'.set j ((x0.1, x53))) := OwnR.setf TWn.ok hO' hn'.symm hx0 (fo := 1) (by decide) rfl
            refine iv_skip ho (by obtain rfl := Option.some.inj ho; rfl) (by obtain rfl := Option.some.inj ho; rfl) (W.setCell ⟨go, j * 2 + 1, none⟩ (.string x53)) ?_ (hB.store (by omega) ls ⟨_, hO2, by rw [List.length_set]; exact hn', ?_⟩) ⟨by simp, fun i h1 h2 => ?_⟩ trivial
            · intro q hq
              obtain rfl := Option.some.inj ho
              have e53 := hq.tmp 53
              have e57 := hq.tmp 57
              simp at e53 e57
              simp [execOp, e53, e57, d53, d57, go_sem, y0, g0]
            · intro x hx
              rcases List.mem_or_eq_of_mem_set hx with h | rfl
              · exact hOk' x h
              · exact ⟨hok0.1, p53⟩
            · exact Below.heap_setCell _ _ _ _ (by show i ≠ go; omega)
        intro f wz hB' hV
        unfold putsA
        simp only [List.mapIdx_toArray, List.mapIdx_cons, List.mapIdx_nil, List.contains_cons]
        simp
        clear hV HK hO9 hS9' hG9'
        obtain ⟨hSz, ⟨lz, hOz, hnz, hokz⟩, _, hGz⟩ := hB'
        have HF := Lib.hid (And.intro hOz (And.intro hokz (And.intro (hSz.mono (d := c + 6000) (by omega)) hGz)))
        have hlz : lz.length ≤ 3 ∧ 0 ≤ lz.length := by omega
        clear hOz hSz hGz hokz
        go_wp2
        go_ret
        exact ⟨_, lz, rfl, HF.out.1, hlz, HF.out.2.1, HF.out.2.2.1, HF.out.2.2.2⟩
end Go.Proofs.YtcfeoapbbkfbnaaGreatDoor
namespace Go.Proofs.YtcfeoapbbkfbnaaGreatDoor
open Go.RowKit Go.Sort

/-- reels whose strings are short and whose numbers are small. -/
def RelOk (x : Rel) : Prop := x.1.size ≤ 5 ∧ x.2.1.size ≤ 5 ∧ -1099511627777 ≤ x.2.2 ∧ x.2.2 ≤ 1099511627777
set_option maxHeartbeats 8000000 in
set_option maxRecDepth 100000 in
theorem ReelList_any (s : Nat) (c : Int) (w : World) (h : Str w s c) (hc : c ≤ 900000) :
    Calls Tryz.prog 8 #[.pointer (some ⟨s, 0, none⟩)] w fun e w' => ∃ v l, e = .returned v ∧ OwnR TRe w' w.heap.size v l ∧ (l.length ≤ 4 ∧ 1 ≤ l.length) ∧ (∀ x ∈ l, RelOk x) ∧ Str w' s (c + 6000) ∧ w.grownBy w' (some s) := by
  have ls := h.lt
  have HNM : Hid (∀ (W : World), W.heap[w.heap.size]? = some (.cells #[.string ⟨#[114, 49]⟩, .string ⟨#[114, 50]⟩, .string ⟨#[114, 51]⟩, .string ⟨#[114, 52]⟩] 9 (0, 0)) → ∀ k : Nat, k < 4 → ∃ nm : ByteArray, W.cell? ⟨w.heap.size, k, none⟩ = some (.string nm) ∧ nm.size ≤ 5) := Lib.hid fun W hW k hk => by
    have hk' : k = 0 ∨ k = 1 ∨ k = 2 ∨ k = 3 := by omega
    rcases hk' with rfl | rfl | rfl | rfl
    · exact ⟨_, blk_cell hW 0, by decide⟩
    · exact ⟨_, blk_cell hW 1, by decide⟩
    · exact ⟨_, blk_cell hW 2, by decide⟩
    · exact ⟨_, blk_cell hW 3, by decide⟩
  go_enter Tryz.func8, Tryz.ntmps8
  go_wp2_with fail
  refine (Range_any s c 1 4 _ (h.alloc _) (by omega) (by omega) (by omega) (by omega) (by omega)).mono ?_
  rintro e w1 ⟨n, rfl, ⟨hn0, hn1, _⟩, hS1, hG1⟩
  have hn2 := hn1 (by omega)
  clear hn1
  obtain ⟨n, rfl⟩ := Int.eq_ofNat_of_zero_le (show 0 ≤ n by omega)
  have hL1 := Gr.blk hG1 (blk_new w _) (by omega)
  have hz1 := hG1.size
  simp at hz1
  have hG1' := Gr.trans (Gr.alloc (Gr.refl w (some s)) _) hG1
  clear hG1
  have j1 : (0 : Int) ≤ (n : Int) := by omega
  have j2 : ¬ 4 < n := by omega
  have j3 : n ≤ 4 := by omega
  go_wp2_with fail
  go_loopw [3, 12] (fun v i wr => ∃ (k : Nat) (l : List Rel), k ≤ n ∧ i = .int .i64 k ∧ OwnR TRe wr (w.heap.size + 1) v l ∧ Hid (l.length = k) ∧ (∀ x ∈ l, RelOk x) ∧ Str wr s (c + 1 + 200 * k) ∧ Hid (wr.heap[w.heap.size]? = some (.cells #[.string ⟨#[114, 49]⟩, .string ⟨#[114, 50]⟩, .string ⟨#[114, 51]⟩, .string ⟨#[114, 52]⟩] 9 (0, 0))) ∧ w.grownBy wr (some s) ∧ w.heap.size < wr.heap.size) (fun _ i _ => n - (intOf i).toNat)
  case atStart => exact ⟨0, [], Nat.zero_le _, rfl, OwnR.nil _ _, Lib.hid rfl, by simp, hS1.mono (by omega), Lib.hid hL1, hG1', by omega⟩
  case round =>
    obtain ⟨k, l, hk, rfl, hO, hl, hB, hS, HL, hG, hz0⟩ := hrel
    obtain ⟨oa, ocap, rfl, _, _⟩ := hO.form
    by_cases hlt : k < n
    · obtain ⟨nm, cn, hnm⟩ := HNM.out wr HL.out k (by omega)
      go_wp2_with fail
      refine (Some_any s _ [⟨#[97]⟩, ⟨#[97]⟩, ⟨#[98]⟩] _ _ (hS.alloc _) (by omega) (RecR.of_blk (T := TS) (blk_new _ _) rfl rfl (by simp) (by omega) hS.lt) (by simp) (by simp)).mono ?_
      rintro e w2 ⟨pt, rfl, hpt, hS2, hG2⟩
      have hpt5 : pt.size ≤ 5 := by have := List.all_eq_true.1 (show ([⟨#[97]⟩, ⟨#[97]⟩, ⟨#[98]⟩].all fun x : ByteArray => decide (x.size ≤ 5)) = true by decide) pt hpt; simpa using this
      have hO2 := (hO.alloc (.cells #[.string ⟨#[97]⟩, .string ⟨#[97]⟩, .string ⟨#[98]⟩] 9)).grown hG2 (show s < w.heap.size + 1 by omega)
      have hL2 := Gr.blk hG2 (blk_old HL.out _) (by omega)
      have hG2' := Gr.trans (Gr.alloc hG _) hG2
      have hz2 := hG2.size
      simp at hz2
      clear hO hG2 hS cn hpt HL
      go_wp2_with fail
      refine (Pick_any s _ [0, 3, 5, 10, 20] _ _ (hS2.alloc _) (by omega) (Ints.of_blk (blk_new _ _) rfl rfl (by simp) (by omega) hS2.lt) (by simp) (by simp)).mono ?_
      rintro e w3 ⟨mn, rfl, hmn, hS3, hG3⟩
      have hmn1 : 0 ≤ mn ∧ mn ≤ 20 := by simp only [List.mem_cons, List.not_mem_nil, or_false] at hmn; omega
      have hO3 := (hO2.alloc (.cells #[.int .i64 0, .int .i64 3, .int .i64 5, .int .i64 10, .int .i64 20] 3)).grown hG3 (show s < w.heap.size + 1 by omega)
      have hL3 := Gr.blk hG3 (blk_old hL2 _) (by omega)
      have hG3' := Gr.trans (Gr.alloc hG2' _) hG3
      have hz3 := hG3.size
      simp at hz3
      clear hO2 hG3 hS2 hmn hL2 hG2'
      have hwk : IntKind.i64.wrap ((k : Int) + 1) = ((k + 1 : Nat) : Int) := by rw [IntWalk.i64_in _ (by omega)]; omega
      have hll : l.length ≤ 1000000 := by rw [hl.out]; omega
      have HNEW : Hid (∀ x ∈ l ++ [((nm, pt, mn) : Rel)], RelOk x) := Lib.hid (by
        intro x hx
        rcases List.mem_append.1 hx with h | h
        · exact hB x h
        · rw [List.mem_singleton] at h
          subst h
          exact ⟨hnm, hpt5, by show -1099511627777 ≤ mn; omega, by show mn ≤ 1099511627777; omega⟩)
      go_wp2_with (at_builtin; refine wp_app_rec TRe.ok rfl _ _ rfl (w.heap.size + 1) _ l rfl (hO3.alloc _) w3.heap.size 1 (nm, pt, mn) rfl (blk_new' _ _ (by simp)) rfl hll (by simp; omega) ?_)
      intro v9 w9 hO9 hA9 hb9
      have hS9 := (hS3.alloc (.cells #[.string nm, .string pt, .int .i64 mn] 73)).belowB hb9 (show s < w.heap.size + 1 by omega)
      have hG9 := Gr.app (Gr.alloc hG3' (.cells #[.string nm, .string pt, .int .i64 mn] 73)) (hO3.alloc _) hA9 (show w.heap.size ≤ w.heap.size + 1 by omega)
      have hL9 := (hb9.block w.heap.size (by omega)).trans (blk_old hL3 (.cells #[.string nm, .string pt, .int .i64 mn] 73))
      have hz9 := hb9.size
      simp at hz9
      have HF := Lib.hid (And.intro hO9 (And.intro (hS9.mono (d := c + 1 + 200 * ((k + 1 : Nat) : Int)) (by omega)) (And.intro hG9 hL9)))
      clear hO9 hS9 hG9 hA9 hb9 hS3 hG3' hO3 hL3
      go_wp2
      go_roundw
      case rel => exact ⟨k + 1, l ++ [(nm, pt, mn)], by omega, by go_num, HF.out.1, Lib.hid (by rw [List.length_append, hl.out]; rfl), HNEW.out, HF.out.2.1, Lib.hid HF.out.2.2.2, HF.out.2.2.1, by omega⟩
      case measure => simp [intOf]; omega
    · obtain rfl : k = n := by omega
      replace hO := hO.base (show w.heap.size ≤ w.heap.size + 1 by omega)
      have hl24 : l.length ≤ 4 ∧ 1 ≤ l.length := by have := hl.out; omega
      have h0 : ¬ l.length = 0 := by have := hl.out; omega
      have hlpos : l ≠ [] := fun e => h0 (by rw [e]; rfl)
      obtain ⟨go, cap, cur, hoa, hgo, hgb, hcl, _⟩ := hO.blk hlpos
      injection hoa with hoa1 _ hoa2
      subst hoa1 hoa2
      clear hgb
      go_wp2_with fail
      refine (Flip_any s _ 20 wr hS (by omega) (by omega)).mono ?_
      rintro e w8 ⟨fl, rfl, hS8, hG8⟩
      have hO8 := hO.grown hG8 ls
      have hG8' := Gr.trans hG hG8
      clear hO hS hG8
      cases fl
      · have HF := Lib.hid (And.intro hO8 (And.intro (hS8.mono (d := c + 6000) (by omega)) hG8'))
        clear hO8 hS8 hG8'
        go_wp2
        go_ret
        exact ⟨_, l, rfl, HF.out.1, by omega, hB, HF.out.2.1, HF.out.2.2⟩
      · go_wp2_with fail
        refine (Next_any s _ l.length w8 hS8 (by omega) (by omega)).mono ?_
        rintro e w9 ⟨j, rfl, ⟨hj0, hj1, _⟩, hS9, hG9⟩
        have hj2 := hj1 (by omega)
        clear hj1
        obtain ⟨j, rfl⟩ := Int.eq_ofNat_of_zero_le hj0
        have hO9 := hO8.grown hG9 ls
        have hG9' := Gr.trans hG8' hG9
        have hgo9 : go < w9.heap.size := by
          have := (World.ownsRow.lt hO9 go rfl).2
          exact this
        have hjn : j < l.length := by omega
        have hS9' := hS9.mono (d := c + 5000 + 300) (by omega)
        clear hO8 hS8 hG8' hG9 hS9
        have HK : OwnK (fun W => ∃ l' : List Rel, OwnR TRe W w.heap.size (.slice (some ⟨go, 0, none⟩) l.length ocap) l' ∧ l'.length = l.length ∧ ∀ x ∈ l', RelOk x) s := ⟨fun W W' h hb => (by obtain ⟨l', h1, h2⟩ := h; exact ⟨l', h1.below hb, h2⟩), fun W W' h hg => (by obtain ⟨l', h1, h2⟩ := h; exact ⟨l', h1.grown hg ls, h2⟩)⟩
        go_wp2
        refine wp_region_inv (by kernel_rfl) [36, 37, 38, 39, 40, 41, 42, 43, 44, 45, 46, 47, 48, 49, 50, 51, 52, 53, 54, 55, 56, 57, 58, 59, 60] (RB (fun W => ∃ l' : List Rel, OwnR TRe W w.heap.size (.slice (some ⟨go, 0, none⟩) l.length ocap) l' ∧ l'.length = l.length ∧ ∀ x ∈ l', RelOk x) w s (w9.heap.size) (c + 5000 + 900)) (RR (w9.heap.size)) (fun i => [VE (.pointer (some ⟨go, j * 3, none⟩)), VE (.pointer (some ⟨go, j * 3, none⟩)), VE (.pointer (some ⟨go, j * 3, none⟩)), VE (.pointer (some ⟨s, 0, none⟩)), VE (.pointer (some ⟨go, j * 3, none⟩)), VE (.pointer (some ⟨go, j * 3, none⟩)), VE (.pointer (some ⟨go, j * 3, none⟩)), VS 5, VLS (w9.heap.size) 5 3, VS 5, VE (.pointer (some ⟨s, 0, none⟩)), VE (.pointer (some ⟨go, j * 3, none⟩)), VE (.pointer (some ⟨go, j * 3, none⟩)), VE (.pointer (some ⟨go, j * 3 + 1, none⟩)), VS 5, VLS (w9.heap.size) 5 2, VS 5, VE (.pointer (some ⟨s, 0, none⟩)), VI (-1099511627777) 1099511627777, VE (.pointer (some ⟨go, j * 3, none⟩)), VE (.pointer (some ⟨go, j * 3, none⟩)), VT, VE (.pointer (some ⟨go, j * 3, none⟩)), VE (.pointer (some ⟨go, j * 3 + 1, none⟩)), VT, VE (.pointer (some ⟨go, j * 3, none⟩)), VE (.pointer (some ⟨go, j * 3 + 2, none⟩)), VT].getD i VT) (by kernel_rfl) (by kernel_rfl) (fun u u' W hu h => h.mono hu) ?_ ?_ ?_ ?_ ?_
        · exact ⟨(hS9'.drew).mono (by show _ ≤ (c + 5000 + 900) - 10 * ((28 : Nat) : Int); omega), ⟨l, hO9, rfl, hB⟩, Nat.le_refl _, ⟨hG9'.os, hG9'.tape, hG9'.output, hG9'.size, hG9'.block⟩⟩
        · intro u W W' i v hB hR hV
          exact match i, hV with
            | 0, h => h
            | 1, h => h
            | 2, h => h
            | 3, h => h
            | 4, h => h
            | 5, h => h
            | 6, h => h
            | 7, h => h
            | 8, h => VLS.stab h hR
            | 9, h => h
            | 10, h => h
            | 11, h => h
            | 12, h => h
            | 13, h => h
            | 14, h => h
            | 15, h => VLS.stab h hR
            | 16, h => h
            | 17, h => h
            | 18, h => h
            | 19, h => h
            | 20, h => h
            | 21, h => h
            | 22, h => h
            | 23, h => h
            | 24, h => h
            | 25, h => h
            | 26, h => h
            | 27, h => h
            | (_ + 28), _ => trivial
        · intro i o v W ho hd
          match i, ho with
            | 0, ho => (obtain rfl := Option.some.inj ho; cases hd)
            | 1, ho => (obtain rfl := Option.some.inj ho; cases hd)
            | 2, ho => (obtain rfl := Option.some.inj ho; cases hd)
            | 3, ho => (obtain rfl := Option.some.inj ho; cases hd)
            | 4, ho => (obtain rfl := Option.some.inj ho; cases hd)
            | 5, ho => (obtain rfl := Option.some.inj ho; cases hd)
            | 6, ho => (obtain rfl := Option.some.inj ho; cases hd)
            | 7, ho => (obtain rfl := Option.some.inj ho; cases hd)
            | 8, ho => (obtain rfl := Option.some.inj ho; cases hd)
            | 9, ho => (obtain rfl := Option.some.inj ho; cases hd)
            | 10, ho => (obtain rfl := Option.some.inj ho; cases hd)
            | 11, ho => (obtain rfl := Option.some.inj ho; cases hd)
            | 12, ho => (obtain rfl := Option.some.inj ho; cases hd)
            | 13, ho => (obtain rfl := Option.some.inj ho; cases hd)
            | 14, ho => (obtain rfl := Option.some.inj ho; cases hd)
            | 15, ho => (obtain rfl := Option.some.inj ho; cases hd)
            | 16, ho => (obtain rfl := Option.some.inj ho; cases hd)
            | 17, ho => (obtain rfl := Option.some.inj ho; cases hd)
            | 18, ho => (obtain rfl := Option.some.inj ho; cases hd)
            | 19, ho => (obtain rfl := Option.some.inj ho; cases hd)
            | 20, ho => (obtain rfl := Option.some.inj ho; cases hd)
            | 21, ho => trivial
            | 22, ho => (obtain rfl := Option.some.inj ho; cases hd)
            | 23, ho => (obtain rfl := Option.some.inj ho; cases hd)
            | 24, ho => trivial
            | 25, ho => (obtain rfl := Option.some.inj ho; cases hd)
            | 26, ho => (obtain rfl := Option.some.inj ho; cases hd)
            | 27, ho => trivial
            | (_ + 28), _ => trivial
        · intro i o u f W ho hi hB hdep
          have hi' : i = 0 ∨ i = 1 ∨ i = 2 ∨ i = 3 ∨ i = 4 ∨ i = 5 ∨ i = 6 ∨ i = 7 ∨ i = 8 ∨ i = 9 ∨ i = 10 ∨ i = 11 ∨ i = 12 ∨ i = 13 ∨ i = 14 ∨ i = 15 ∨ i = 16 ∨ i = 17 ∨ i = 18 ∨ i = 19 ∨ i = 20 ∨ i = 21 ∨ i = 22 ∨ i = 23 ∨ i = 24 ∨ i = 25 ∨ i = 26 ∨ i = 27 := by
            have : i < 28 := hi
            omega
          rcases hi' with rfl | rfl | rfl | rfl | rfl | rfl | rfl | rfl | rfl | rfl | rfl | rfl | rfl | rfl | rfl | rfl | rfl | rfl | rfl | rfl | rfl | rfl | rfl | rfl | rfl | rfl | rfl | rfl
          · refine iv_val ho (by obtain rfl := Option.some.inj ho; rfl) (.pointer (some ⟨go, j * 3, none⟩)) W ?_ (hB.below HK (Below.refl _ _)) (RR.refl _ _) rfl
            · intro q hq
              obtain rfl := Option.some.inj ho
              have e6 := hq.tmp 6
              simp at e6
              simp [execOp, e6, go_sem]
          · refine iv_val ho (by obtain rfl := Option.some.inj ho; rfl) (.pointer (some ⟨go, j * 3, none⟩)) W ?_ (hB.below HK (Below.refl _ _)) (RR.refl _ _) rfl
            · intro q hq
              obtain rfl := Option.some.inj ho
              have e6 := hq.tmp 6
              simp at e6
              simp [execOp, e6, go_sem]
          · refine iv_val ho (by obtain rfl := Option.some.inj ho; rfl) (.pointer (some ⟨go, j * 3, none⟩)) W ?_ (hB.below HK (Below.refl _ _)) (RR.refl _ _) rfl
            · intro q hq
              obtain rfl := Option.some.inj ho
              have e6 := hq.tmp 6
              simp at e6
              simp [execOp, e6, go_sem]
          · refine iv_val ho (by obtain rfl := Option.some.inj ho; rfl) (.pointer (some ⟨s, 0, none⟩)) W ?_ (hB.below HK (Below.refl _ _)) (RR.refl _ _) rfl
            · intro q hq
              obtain rfl := Option.some.inj ho
              have e0 := hq.tmp 0
              simp at e0
              simp [execOp, e0, go_sem]
          · refine iv_val ho (by obtain rfl := Option.some.inj ho; rfl) (.pointer (some ⟨go, j * 3, none⟩)) W ?_ (hB.below HK (Below.refl _ _)) (RR.refl _ _) rfl
            · intro q hq
              obtain rfl := Option.some.inj ho
              have e6 := hq.tmp 6
              simp at e6
              simp [execOp, e6, go_sem]
          · have d40 : f 40 = .pointer (some ⟨go, j * 3, none⟩) := hdep ⟨4, .data⟩ (by obtain rfl := Option.some.inj ho; simp) rfl
            refine iv_val ho (by obtain rfl := Option.some.inj ho; rfl) (.pointer (some ⟨go, j * 3, none⟩)) W ?_ (hB.below HK (Below.refl _ _)) (RR.refl _ _) rfl
            · intro q hq
              obtain rfl := Option.some.inj ho
              have e40 := hq.tmp 40
              simp at e40
              simp [execOp, e40, d40, go_sem]
          · have d41 : f 41 = .pointer (some ⟨go, j * 3, none⟩) := hdep ⟨5, .data⟩ (by obtain rfl := Option.some.inj ho; simp) rfl
            refine iv_val ho (by obtain rfl := Option.some.inj ho; rfl) (.pointer (some ⟨go, j * 3, none⟩)) W ?_ (hB.below HK (Below.refl _ _)) (RR.refl _ _) rfl
            · intro q hq
              obtain rfl := Option.some.inj ho
              have e41 := hq.tmp 41
              simp at e41
              simp [execOp, e41, d41, go_sem]
          · have d42 : f 42 = .pointer (some ⟨go, j * 3, none⟩) := hdep ⟨6, .data⟩ (by obtain rfl := Option.some.inj ho; simp) rfl
            obtain ⟨l', hO', hn', hOk'⟩ := hB.own
            obtain ⟨x0, hx0⟩ : ∃ x, l'[j]? = some x := ⟨_, List.getElem?_eq_getElem (by omega)⟩
            have hok0 := hOk' _ (List.mem_of_getElem? hx0)
            have y0 : W.cell? ⟨go, j * 3, none⟩ = some (.string x0.1) := (OwnR.cellf TRe.ok hO' hn'.symm hx0 (fo := 0) rfl).1
            refine iv_val ho (by obtain rfl := Option.some.inj ho; rfl) (.string x0.1) W ?_ (hB.below HK (Below.refl _ _)) (RR.refl _ _) ⟨_, rfl, hok0.1⟩
            · intro q hq
              obtain rfl := Option.some.inj ho
              have e42 := hq.tmp 42
              simp at e42
              simp [execOp, e42, d42, go_sem, y0]
          · obtain ⟨x43, d43, p43⟩ : VS 5 (f 43) W := hdep ⟨7, .data⟩ (by obtain rfl := Option.some.inj ho; simp) rfl
            refine iv_val ho (by obtain rfl := Option.some.inj ho; rfl) (.slice (some ⟨W.heap.size, 0, none⟩) 3 3) (W.alloc (.cells #[.string x43, .string (⟨#[]⟩ : ByteArray), .string (⟨#[114, 49]⟩ : ByteArray)] 9)) ?_ (hB.below HK (Bl.alloc (Below.refl _ _) _)) (RR.of_below (Bl.alloc (Below.refl _ _) _)) ⟨[x43, (⟨#[]⟩ : ByteArray), (⟨#[114, 49]⟩ : ByteArray)], ⟨_, rfl⟩, rfl, RecR.of_blk (T := TS) (blk_new _ _) rfl rfl (by simp) (by omega) hB.size, ?_⟩
            · intro q hq
              obtain rfl := Option.some.inj ho
              have e43 := hq.tmp 43
              simp at e43
              simp [execOp, hq.const, e43, d43, go_sem]
            · intro x hx
              simp only [List.mem_cons, List.not_mem_nil, or_false] at hx
              rcases hx with rfl | rfl | rfl
              all_goals (first | assumption | (show _ ≤ 5; decide))
          · have d39 : f 39 = .pointer (some ⟨s, 0, none⟩) := hdep ⟨3, .data⟩ (by obtain rfl := Option.some.inj ho; simp) rfl
            obtain ⟨li, ⟨bi, d44⟩, hli, hri, hbi⟩ : VLS (w9.heap.size) 5 3 (f 44) W := hdep ⟨8, .data⟩ (by obtain rfl := Option.some.inj ho; simp) rfl
            refine iv_call ho (by obtain rfl := Option.some.inj ho; rfl) 10 #[.tmp 39, .tmp 44] _ (by obtain rfl := Option.some.inj ho; rfl) (enters_of Tryz.func10 (by kernel_rfl) rfl) #[.pointer (some ⟨s, 0, none⟩), f 44] (by intro q hq; have e39 := hq.tmp 39; simp at e39; have e44 := hq.tmp 44; simp at e44; simp [e39, e44, d39]) _ (Some_any s _ li (f 44) W hB.str (by omega) (Rd.mono hri (by omega)) (by omega) (by omega)) ?_
            rintro e W' ⟨r, rfl, hr, hs', hg'⟩
            exact ⟨_, rfl, hB.call HK hs' (by omega) hg', RR.of_gr hg' (by omega), ⟨r, rfl, hbi r hr⟩⟩
          · refine iv_val ho (by obtain rfl := Option.some.inj ho; rfl) (.pointer (some ⟨s, 0, none⟩)) W ?_ (hB.below HK (Below.refl _ _)) (RR.refl _ _) rfl
            · intro q hq
              obtain rfl := Option.some.inj ho
              have e0 := hq.tmp 0
              simp at e0
              simp [execOp, e0, go_sem]
          · refine iv_val ho (by obtain rfl := Option.some.inj ho; rfl) (.pointer (some ⟨go, j * 3, none⟩)) W ?_ (hB.below HK (Below.refl _ _)) (RR.refl _ _) rfl
            · intro q hq
              obtain rfl := Option.some.inj ho
              have e6 := hq.tmp 6
              simp at e6
              simp [execOp, e6, go_sem]
          · have d47 : f 47 = .pointer (some ⟨go, j * 3, none⟩) := hdep ⟨11, .data⟩ (by obtain rfl := Option.some.inj ho; simp) rfl
            refine iv_val ho (by obtain rfl := Option.some.inj ho; rfl) (.pointer (some ⟨go, j * 3, none⟩)) W ?_ (hB.below HK (Below.refl _ _)) (RR.refl _ _) rfl
            · intro q hq
              obtain rfl := Option.some.inj ho
              have e47 := hq.tmp 47
              simp at e47
              simp [execOp, e47, d47, go_sem]
          · have d48 : f 48 = .pointer (some ⟨go, j * 3, none⟩) := hdep ⟨12, .data⟩ (by obtain rfl := Option.some.inj ho; simp) rfl
            refine iv_val ho (by obtain rfl := Option.some.inj ho; rfl) (.pointer (some ⟨go, j * 3 + 1, none⟩)) W ?_ (hB.below HK (Below.refl _ _)) (RR.refl _ _) rfl
            · intro q hq
              obtain rfl := Option.some.inj ho
              have e48 := hq.tmp 48
              simp at e48
              simp [execOp, e48, d48, go_sem]
          · have d49 : f 49 = .pointer (some ⟨go, j * 3 + 1, none⟩) := hdep ⟨13, .data⟩ (by obtain rfl := Option.some.inj ho; simp) rfl
            obtain ⟨l', hO', hn', hOk'⟩ := hB.own
            obtain ⟨x0, hx0⟩ : ∃ x, l'[j]? = some x := ⟨_, List.getElem?_eq_getElem (by omega)⟩
            have hok0 := hOk' _ (List.mem_of_getElem? hx0)
            have y0 : W.cell? ⟨go, j * 3 + 1, none⟩ = some (.string x0.2.1) := (OwnR.cellf TRe.ok hO' hn'.symm hx0 (fo := 1) rfl).1
            refine iv_val ho (by obtain rfl := Option.some.inj ho; rfl) (.string x0.2.1) W ?_ (hB.below HK (Below.refl _ _)) (RR.refl _ _) ⟨_, rfl, hok0.2.1⟩
            · intro q hq
              obtain rfl := Option.some.inj ho
              have e49 := hq.tmp 49
              simp at e49
              simp [execOp, e49, d49, go_sem, y0]
          · obtain ⟨x50, d50, p50⟩ : VS 5 (f 50) W := hdep ⟨14, .data⟩ (by obtain rfl := Option.some.inj ho; simp) rfl
            refine iv_val ho (by obtain rfl := Option.some.inj ho; rfl) (.slice (some ⟨W.heap.size, 0, none⟩) 2 2) (W.alloc (.cells #[.string x50, .string (⟨#[]⟩ : ByteArray)] 9)) ?_ (hB.below HK (Bl.alloc (Below.refl _ _) _)) (RR.of_below (Bl.alloc (Below.refl _ _) _)) ⟨[x50, (⟨#[]⟩ : ByteArray)], ⟨_, rfl⟩, rfl, RecR.of_blk (T := TS) (blk_new _ _) rfl rfl (by simp) (by omega) hB.size, ?_⟩
            · intro q hq
              obtain rfl := Option.some.inj ho
              have e50 := hq.tmp 50
              simp at e50
              simp [execOp, hq.const, e50, d50, go_sem]
            · intro x hx
              simp only [List.mem_cons, List.not_mem_nil, or_false] at hx
              rcases hx with rfl | rfl
              all_goals (first | assumption | (show _ ≤ 5; decide))
          · have d46 : f 46 = .pointer (some ⟨s, 0, none⟩) := hdep ⟨10, .data⟩ (by obtain rfl := Option.some.inj ho; simp) rfl
            obtain ⟨li, ⟨bi, d51⟩, hli, hri, hbi⟩ : VLS (w9.heap.size) 5 2 (f 51) W := hdep ⟨15, .data⟩ (by obtain rfl := Option.some.inj ho; simp) rfl
            refine iv_call ho (by obtain rfl := Option.some.inj ho; rfl) 10 #[.tmp 46, .tmp 51] _ (by obtain rfl := Option.some.inj ho; rfl) (enters_of Tryz.func10 (by kernel_rfl) rfl) #[.pointer (some ⟨s, 0, none⟩), f 51] (by intro q hq; have e46 := hq.tmp 46; simp at e46; have e51 := hq.tmp 51; simp at e51; simp [e46, e51, d46]) _ (Some_any s _ li (f 51) W hB.str (by omega) (Rd.mono hri (by omega)) (by omega) (by omega)) ?_
            rintro e W' ⟨r, rfl, hr, hs', hg'⟩
            exact ⟨_, rfl, hB.call HK hs' (by omega) hg', RR.of_gr hg' (by omega), ⟨r, rfl, hbi r hr⟩⟩
          · refine iv_val ho (by obtain rfl := Option.some.inj ho; rfl) (.pointer (some ⟨s, 0, none⟩)) W ?_ (hB.below HK (Below.refl _ _)) (RR.refl _ _) rfl
            · intro q hq
              obtain rfl := Option.some.inj ho
              have e0 := hq.tmp 0
              simp at e0
              simp [execOp, e0, go_sem]
          · have d53 : f 53 = .pointer (some ⟨s, 0, none⟩) := hdep ⟨17, .data⟩ (by obtain rfl := Option.some.inj ho; simp) rfl
            refine iv_call ho (by obtain rfl := Option.some.inj ho; rfl) 63 #[.tmp 53, .const (.int .i64 (0)), .const (.int .i64 (100000))] _ (by obtain rfl := Option.some.inj ho; rfl) (enters_of Tryz.func63 (by kernel_rfl) rfl) #[.pointer (some ⟨s, 0, none⟩), .int .i64 (0), .int .i64 (100000)] (by intro q hq; have e53 := hq.tmp 53; simp at e53; simp [hq.const, e53, d53]) _ (Odd_any s _ (0) (100000) W hB.str (by omega) (by omega) (by omega) (by omega)) ?_
            rintro e W' ⟨r, rfl, hr, hs', hg'⟩
            exact ⟨_, rfl, hB.call HK hs' (by omega) hg', RR.of_gr hg' (by omega), ⟨r, rfl, by omega, by omega⟩⟩
          · have d36 : f 36 = .pointer (some ⟨go, j * 3, none⟩) := hdep ⟨0, .data⟩ (by obtain rfl := Option.some.inj ho; simp) rfl
            refine iv_val ho (by obtain rfl := Option.some.inj ho; rfl) (.pointer (some ⟨go, j * 3, none⟩)) W ?_ (hB.below HK (Below.refl _ _)) (RR.refl _ _) rfl
            · intro q hq
              obtain rfl := Option.some.inj ho
              have e36 := hq.tmp 36
              simp at e36
              simp [execOp, e36, d36, go_sem]
          · have d55 : f 55 = .pointer (some ⟨go, j * 3, none⟩) := hdep ⟨19, .data⟩ (by obtain rfl := Option.some.inj ho; simp) rfl
            refine iv_val ho (by obtain rfl := Option.some.inj ho; rfl) (.pointer (some ⟨go, j * 3, none⟩)) W ?_ (hB.below HK (Below.refl _ _)) (RR.refl _ _) rfl
            · intro q hq
              obtain rfl := Option.some.inj ho
              have e55 := hq.tmp 55
              simp at e55
              simp [execOp, e55, d55, go_sem]
          · have d56 : f 56 = .pointer (some ⟨go, j * 3, none⟩) := hdep ⟨20, .data⟩ (by obtain rfl := Option.some.inj ho; simp) rfl
            obtain ⟨x45, d45, p45⟩ : VS 5 (f 45) W := hdep ⟨9, .data⟩ (by obtain rfl := Option.some.inj ho; simp) rfl
            obtain ⟨l', hO', hn', hOk'⟩ := hB.own
            obtain ⟨x0, hx0⟩ : ∃ x, l'[j]? = some x := ⟨_, List.getElem?_eq_getElem (by omega)⟩
            have hok0 := hOk' _ (List.mem_of_getElem? hx0)
            obtain ⟨y0, g0⟩ := OwnR.cellf TRe.ok hO' hn'.symm hx0 (fo := 0) rfl
            replace y0 : W.cell? ⟨go, j * 3, none⟩ = some (.string x0.1) := y0
            replace g0 : W.frozen? ⟨go, j * 3, none⟩ = false := g0
            have hO2 : OwnR TRe (W.setCell ⟨go, j * 3, none⟩ (.string x45)) w.heap.size (.slice (some ⟨go, 0, none⟩) l.length ocap) (l'.set j ((x45, x0.2))) := OwnR.setf TRe.ok hO' hn'.symm hx0 (fo := 0) (by decide) rfl
            refine iv_skip ho (by obtain rfl := Option.some.inj ho; rfl) (by obtain rfl := Option.some.inj ho; rfl) (W.setCell ⟨go, j * 3, none⟩ (.string x45)) ?_ (hB.store (by omega) ls ⟨_, hO2, by rw [List.length_set]; exact hn', ?_⟩) ⟨by simp, fun i h1 h2 => ?_⟩ trivial
            · intro q hq
              obtain rfl := Option.some.inj ho
              have e45 := hq.tmp 45
              have e56 := hq.tmp 56
              simp at e45 e56
              simp [execOp, e45, e56, d45, d56, go_sem, y0, g0]
            · intro x hx
              rcases List.mem_or_eq_of_mem_set hx with h | rfl
              · exact hOk' x h
              · exact ⟨p45, hok0.2⟩
            · exact Below.heap_setCell _ _ _ _ (by show i ≠ go; omega)
          · have d37 : f 37 = .pointer (some ⟨go, j * 3, none⟩) := hdep ⟨1, .data⟩ (by obtain rfl := Option.some.inj ho; simp) rfl
            refine iv_val ho (by obtain rfl := Option.some.inj ho; rfl) (.pointer (some ⟨go, j * 3, none⟩)) W ?_ (hB.below HK (Below.refl _ _)) (RR.refl _ _) rfl
            · intro q hq
              obtain rfl := Option.some.inj ho
              have e37 := hq.tmp 37
              simp at e37
              simp [execOp, e37, d37, go_sem]
          · have d57 : f 57 = .pointer (some ⟨go, j * 3, none⟩) := hdep ⟨22, .data⟩ (by obtain rfl := Option.some.inj ho; simp) rfl
            refine iv_val ho (by obtain rfl := Option.some.inj ho; rfl) (.pointer (some ⟨go, j * 3 + 1, none⟩)) W ?_ (hB.below HK (Below.refl _ _)) (RR.refl _ _) rfl
            · intro q hq
              obtain rfl := Option.some.inj ho
              have e57 := hq.tmp 57
              simp at e57
              simp [execOp, e57, d57, go_sem]
          · have d58 : f 58 = .pointer (some ⟨go, j * 3 + 1, none⟩) := hdep ⟨23, .data⟩ (by obtain rfl := Option.some.inj ho; simp) rfl
            obtain ⟨x52, d52, p52⟩ : VS 5 (f 52) W := hdep ⟨16, .data⟩ (by obtain rfl := Option.some.inj ho; simp) rfl
            obtain ⟨l', hO', hn', hOk'⟩ := hB.own
            obtain ⟨x0, hx0⟩ : ∃ x, l'[j]? = some x := ⟨_, List.getElem?_eq_getElem (by omega)⟩
            have hok0 := hOk' _ (List.mem_of_getElem? hx0)
            obtain ⟨y0, g0⟩ := OwnR.cellf TRe.ok hO' hn'.symm hx0 (fo := 1) rfl
            replace y0 : W.cell? ⟨go, j * 3 + 1, none⟩ = some (.string x0.2.1) := y0
            replace g0 : W.frozen? ⟨go, j * 3 + 1, none⟩ = false := g0
            have hO2 : OwnR TRe (W.setCell ⟨go, j * 3 + 1, none⟩ (.string x52)) w.heap.size (.slice (some ⟨go, 0, none⟩) l.length ocap) (l'.set j ((x0.1, x52, x0.2.2))) := OwnR.setf TRe.ok hO' hn'.symm hx0 (fo := 1) (by decide) rfl
            refine iv_skip ho (by obtain rfl := Option.some.inj ho; rfl) (by obtain rfl := Option.some.inj ho; rfl) (W.setCell ⟨go, j * 3 + 1, none⟩ (.string x52)) ?_ (hB.store (by omega) ls ⟨_, hO2, by rw [List.length_set]; exact hn', ?_⟩) ⟨by simp, fun i h1 h2 => ?_⟩ trivial
            · intro q hq
              obtain rfl := Option.some.inj ho
              have e52 := hq.tmp 52
              have e58 := hq.tmp 58
              simp at e52 e58
              simp [execOp, e52, e58, d52, d58, go_sem, y0, g0]
            · intro x hx
              rcases List.mem_or_eq_of_mem_set hx with h | rfl
              · exact hOk' x h
              · exact ⟨hok0.1, p52, hok0.2.2⟩
            · exact Below.heap_setCell _ _ _ _ (by show i ≠ go; omega)
          · have d38 : f 38 = .pointer (some ⟨go, j * 3, none⟩) := hdep ⟨2, .data⟩ (by obtain rfl := Option.some.inj ho; simp) rfl
            refine iv_val ho (by obtain rfl := Option.some.inj ho; rfl) (.pointer (some ⟨go, j * 3, none⟩)) W ?_ (hB.below HK (Below.refl _ _)) (RR.refl _ _) rfl
            · intro q hq
              obtain rfl := Option.some.inj ho
              have e38 := hq.tmp 38
              simp at e38
              simp [execOp, e38, d38, go_sem]
          · have d59 : f 59 = .pointer (some ⟨go, j * 3, none⟩) := hdep ⟨25, .data⟩ (by obtain rfl := Option.some.inj ho; simp) rfl
            refine iv_val ho (by obtain rfl := Option.some.inj ho; rfl) (.pointer (some ⟨go, j * 3 + 2, none⟩)) W ?_ (hB.below HK (Below.refl _ _)) (RR.refl _ _) rfl
            · intro q hq
              obtain rfl := Option.some.inj ho
              have e59 := hq.tmp 59
              simp at e59
              simp [execOp, e59, d59, go_sem]
          · have d60 : f 60 = .pointer (some ⟨go, j * 3 + 2, none⟩) := hdep ⟨26, .data⟩ (by obtain rfl := Option.some.inj ho; simp) rfl
            obtain ⟨x54, d54, p54, r54⟩ : VI (-1099511627777) 1099511627777 (f 54) W := hdep ⟨18, .data⟩ (by obtain rfl := Option.some.inj ho; simp) rfl
            obtain ⟨l', hO', hn', hOk'⟩ := hB.own
            obtain ⟨x0, hx0⟩ : ∃ x, l'[j]? = some x := ⟨_, List.getElem?_eq_getElem (by omega)⟩
            have hok0 := hOk' _ (List.mem_of_getElem? hx0)
            obtain ⟨y0, g0⟩ := OwnR.cellf TRe.ok hO' hn'.symm hx0 (fo := 2) rfl
            replace y0 : W.cell? ⟨go, j * 3 + 2, none⟩ = some (.int .i64 x0.2.2) := y0
            replace g0 : W.frozen? ⟨go, j * 3 + 2, none⟩ = false := g0
            have hO2 : OwnR TRe (W.setCell ⟨go, j * 3 + 2, none⟩ (.int .i64 x54)) w.heap.size (.slice (some ⟨go, 0, none⟩) l.length ocap) (l'.set j ((x0.1, x0.2.1, x54))) := OwnR.setf TRe.ok hO' hn'.symm hx0 (fo := 2) (by decide) rfl
            refine iv_skip ho (by obtain rfl := Option.some.inj ho; rfl) (by obtain rfl := Option.some.inj ho; rfl) (W.setCell ⟨go, j * 3 + 2, none⟩ (.int .i64 x54)) ?_ (hB.store (by omega) ls ⟨_, hO2, by rw [List.length_set]; exact hn', ?_⟩) ⟨by simp, fun i h1 h2 => ?_⟩ trivial
            · intro q hq
              obtain rfl := Option.some.inj ho
              have e54 := hq.tmp 54
              have e60 := hq.tmp 60
              simp at e54 e60
              simp [execOp, e54, e60, d54, d60, go_sem, y0, g0]
            · intro x hx
              rcases List.mem_or_eq_of_mem_set hx with h | rfl
              · exact hOk' x h
              · exact ⟨hok0.1, hok0.2.1, p54, r54⟩
            · exact Below.heap_setCell _ _ _ _ (by show i ≠ go; omega)
        intro f wz hB' hV
        unfold putsA
        simp only [List.mapIdx_toArray, List.mapIdx_cons, List.mapIdx_nil, List.contains_cons]
        simp
        clear hV HK hO9 hS9' hG9'
        obtain ⟨hSz, ⟨lz, hOz, hnz, hokz⟩, _, hGz⟩ := hB'
        have HF := Lib.hid (And.intro hOz (And.intro hokz (And.intro (hSz.mono (d := c + 6000) (by omega)) hGz)))
        have hlz : lz.length ≤ 4 ∧ 1 ≤ lz.length := by omega
        clear hOz hSz hGz hokz
        go_wp2
        go_ret
        exact ⟨_, lz, rfl, HF.out.1, hlz, HF.out.2.1, HF.out.2.2.1, HF.out.2.2.2⟩
end Go.Proofs.YtcfeoapbbkfbnaaGreatDoor
