/- The contracts of ChooseFault and worksFault; of choice.better. Conditions: at most 100 works, names of at most 1000 bytes. -/
import Derived.Test.YtnmimagninhkkaaGreatDoorChs
import Derived.Test.YtnmimagninhkkaaGreatDoorCmq
import Derived.Test.YtnmimagninhkkaaGreatDoorBt
import Derived.Test.YtnmimagninhkkaaGreatDoorSpan
import Derived.Test.YtnmimagninhkkaaGreatDoorKey
import Derived.Test.YtnmimagninhkkaaGreatDoorLGen
import Derived.Deep.RegionHeld2
namespace Go.Proofs.YtnmimagninhkkaaGreatDoor
open Go.RowKit Go.Sort

def TW : Rty Wk := { e := 74, S := 70, k := 3, b := 32, z := .agg #[.string ByteArray.empty, .int .i64 0, .int .i64 0], f := fun x => [.string x.1, .int .i64 x.2.1, .int .i64 x.2.2] }
theorem TW.ok : TW.Ok := ⟨by kernel_rfl, Tryz.underlying70, rfl, by decide, fun _ => rfl, fun x u hu => by simp [TW] at hu; rcases hu with rfl | rfl | rfl <;> rfl, by decide⟩
theorem works_at {w : World} {lo : Nat} {a : Option Addr} {n cap : Nat} {l : List Wk} (h : RecR TW w lo (.slice a n cap) l) {k : Nat} {x : Wk} (hk : l[k]? = some x) :
    ∃ b o, a = some ⟨b, o, none⟩ ∧ lo ≤ b ∧ b < w.heap.size ∧ w.cell? ⟨b, o + k * 3, none⟩ = some (.string x.1) ∧ w.cell? ⟨b, o + k * 3 + 1, none⟩ = some (.int .i64 x.2.1) ∧ w.cell? ⟨b, o + k * 3 + 2, none⟩ = some (.int .i64 x.2.2) := by
  obtain ⟨b, o, rfl, h1, h2, h3⟩ := h.at TW.ok.len hk TW.ok.pos
  exact ⟨b, o, rfl, h1, h2, h3 0 _ rfl, h3 1 _ rfl, h3 2 _ rfl⟩
theorem GoodW.snoc {key : ByteArray → Bool} {ws : List Wk} {k : Nat} {x : Wk} (h : GoodW key (ws.take k)) (hx : ws[k]? = some x) (hk : key x.1 = true) (hm : 0 ≤ x.2.1 ∧ x.2.1 ≤ 10000) (hv : 0 ≤ x.2.2 ∧ x.2.2 ≤ 1000000000) (hl : k + 1 ≤ 14) (ha : ((ws.take k).any fun y => y.1.toList == x.1.toList) = false) : GoodW key (ws.take (k + 1)) := by
  have hkl := (List.getElem?_eq_some_iff.1 hx).1
  rw [take_snoc hx]
  refine ⟨by simp; omega, fun y hy => ?_, fun i j y z hij hy hz => ?_⟩
  · rcases List.mem_append.1 hy with hy | hy
    · exact h.all y hy
    · simp at hy; subst hy; exact ⟨hk, hm, hv⟩
  · have hjl := (List.getElem?_eq_some_iff.1 hz).1
    simp at hjl
    have hi : i < (ws.take k).length := by simp; omega
    rw [List.getElem?_append_left hi] at hy
    by_cases hj : j < (ws.take k).length
    · rw [List.getElem?_append_left hj] at hz
      exact h.one i j y z hij hy hz
    · rw [List.getElem?_append_right (by omega)] at hz
      have hj2 : j - (ws.take k).length = 0 := by simp at hj ⊢; omega
      rw [hj2] at hz
      simp at hz
      subst hz
      intro e
      rw [List.any_eq_false] at ha
      exact ha y (List.mem_of_getElem? hy) (by rw [e]; simp)
theorem GoodW.any_no {key : ByteArray → Bool} {ws : List Wk} {k : Nat} {x : Wk} (h : GoodW key ws) (hx : ws[k]? = some x) : ((ws.take k).any fun y => y.1.toList == x.1.toList) = false := by
  rw [List.any_eq_false]
  intro y hy e
  obtain ⟨i, hi, he⟩ := List.getElem_of_mem hy
  have hik : i < k := by simp at hi; omega
  have hy' : ws[i]? = some y := by
    rw [← he, List.getElem_take]; exact List.getElem?_eq_getElem _
  exact h.one i k y x hik hy' hx ((Lib.bytes_beq_iff _ _).1 e)
theorem rec_take {α : Type} {T : Rty α} {w : World} {lo : Nat} {a : Option Addr} {n cap : Nat} {l : List α} (h : RecR T w lo (.slice a n cap) l) {k : Nat} (hk : k ≤ l.length) : RecR T w lo (.slice a k cap) (l.take k) := by
  obtain ⟨a', cap', hv, h1, h2, h3⟩ := h
  obtain ⟨rfl, rfl, rfl⟩ := Value.slice.inj hv
  have hl : (l.take k).length = k := by rw [List.length_take]; omega
  refine ⟨a, cap, by rw [hl], by omega, h2, fun j x hj => h3 j x ?_⟩
  have hp : (l.take k).flatMap T.f <+: l.flatMap T.f := by
    conv => rhs; rw [← List.take_append_drop k l]
    rw [List.flatMap_append]
    exact List.prefix_append _ _
  obtain ⟨t, ht⟩ := hp
  rw [← ht, List.getElem?_append_left (List.getElem?_eq_some_iff.1 hj).1]
  exact hj
set_option maxHeartbeats 1000000 in
theorem sameR_any (b c : ByteArray) (m v : Int) (X : Nat) (W : World) (hc : W.cell? ⟨X, 0, none⟩ = some (.string c)) :
    Calls Tryz.prog 123 #[.agg #[.string b, .int .i64 m, .int .i64 v], .pointer (some ⟨X, 0, none⟩)] W fun e w' => e = .returned (.bool (b.toList == c.toList)) ∧ Below W.heap.size W w' := by
  have hX := World.block_lt_of_cell? _ _ hc
  simp only at hX
  have c2 : (W.alloc (.cells #[.string b, .int .i64 m, .int .i64 v] 74)).cell? ⟨X, 0, none⟩ = some (.string c) := (World.cell?_alloc_past _ _ _ hX).trans hc
  go_enter Tryz.func123, Tryz.ntmps123
  go_wp2
  go_ret
  exact ⟨rfl, Bl.alloc (Below.refl _ _) _⟩
set_option maxHeartbeats 2000000 in
theorem IndexWR_any (ws : List Wk) (vw : Value) (c : ByteArray) (X : Nat) (w : World) (_ : ws.length ≤ 1000) (rl : RecR TW w 0 vw ws) (hc : w.cell? ⟨X, 0, none⟩ = some (.string c)) :
    Calls Tryz.prog 192 #[vw, .func (.func 123) #[] #[.pointer (some ⟨X, 0, none⟩)]] w fun e w' => (∃ r : Int, e = .returned (.int .i64 r) ∧ decide (0 ≤ r) = ws.any (fun y => y.1.toList == c.toList)) ∧ Below w.heap.size w w' := by
  obtain ⟨a, cap, rfl, hc1, hc2⟩ := rl.form
  have hX := World.block_lt_of_cell? _ _ hc
  simp only at hX
  go_enter Tryz.func192, Tryz.ntmps192
  go_wp2
  go_loopw [8] (fun i wr => ∃ k : Nat, k ≤ ws.length ∧ i = .int .i64 k ∧ Hid ((ws.take k).any (fun y => y.1.toList == c.toList) = false) ∧ Below w.heap.size w wr) (fun i _ => ws.length - (intOf i).toNat)
  case atStart => exact ⟨0, Nat.zero_le _, rfl, Lib.hid rfl, Below.refl _ _⟩
  case round =>
    obtain ⟨k, hk, rfl, hf, hb⟩ := hrel
    by_cases hlt : k < ws.length
    · obtain ⟨x, hx⟩ : ∃ x, ws[k]? = some x := ⟨_, List.getElem?_eq_getElem hlt⟩
      have HS : Hid ((ws.take (k + 1)).any (fun y => y.1.toList == c.toList) = ((ws.take k).any (fun y => y.1.toList == c.toList) || (x.1.toList == c.toList))) := Lib.hid (by rw [take_snoc hx]; simp)
      have HM := Lib.hid (List.mem_of_getElem? hx)
      have HC := Lib.hid (sameR_any x.1 c x.2.1 x.2.2 X wr (((bcell hb).1 X 0 hX).trans hc))
      obtain ⟨b2, o2, rfl, _, hl2, y1, y2, y3⟩ := works_at (rl.below hb) hx
      clear hx
      obtain ⟨xb, xm, xv⟩ := x
      simp only at y1 y2 y3 HS HC
      have HM2 := Lib.hid (fun h : (xb.toList == c.toList) = true => (List.any_eq_true.2 ⟨_, HM.out, h⟩ : ws.any (fun y => y.1.toList == c.toList) = true))
      generalize hp : (xb.toList == c.toList) = pb at *
      have HP := Lib.hid hp
      clear hp
      cases pb
      all_goals
        go_wp2_with fail
        refine HC.out.mono ?_
        rintro e w2 ⟨rfl, hb2⟩
        go_wp2
      · go_roundw
        case rel => exact ⟨k + 1, by omega, by go_num, Lib.hid (by rw [HS.out, hf.out]; rfl), hb.trans (hb2.mono hb.size)⟩
        case measure => simp [intOf]; omega
      · go_ret
        refine ⟨⟨_, rfl, ?_⟩, hb.trans (hb2.mono hb.size)⟩
        rw [HM2.out (by first | rfl | trivial)]; simp
    · have hk2 : k = ws.length := by omega
      subst hk2
      rw [List.take_length] at hf
      go_wp2
      go_ret
      exact ⟨⟨_, rfl, by rw [hf.out]; rfl⟩, hb⟩
set_option maxHeartbeats 1000000 in
theorem ContainsWR_any (ws : List Wk) (vw : Value) (c : ByteArray) (X : Nat) (w : World) (hlen : ws.length ≤ 1000) (rl : RecR TW w 0 vw ws) (hc : w.cell? ⟨X, 0, none⟩ = some (.string c)) :
    Calls Tryz.prog 122 #[vw, .func (.func 123) #[] #[.pointer (some ⟨X, 0, none⟩)]] w fun e w' => e = .returned (.bool (ws.any (fun y => y.1.toList == c.toList))) ∧ Below w.heap.size w w' := by
  go_enter Tryz.func122, Tryz.ntmps122
  go_wp2_with fail
  refine (IndexWR_any ws vw c X _ hlen rl hc).mono ?_
  rintro e w2 ⟨⟨r, rfl, hr⟩, hb⟩
  have HR := Lib.hid hr
  clear hr
  go_wp2
  go_ret
  exact ⟨ret_bool HR.out, hb⟩
set_option maxHeartbeats 1000000 in
theorem sameP_any (b c : ByteArray) (m v : Int) (X : Nat) (W : World) (hc : W.cell? ⟨X, 0, none⟩ = some (.string c)) :
    Calls Tryz.prog 191 #[.agg #[.string b, .int .i64 m, .int .i64 v], .pointer (some ⟨X, 0, none⟩)] W fun e w' => e = .returned (.bool (b.toList == c.toList)) ∧ Below W.heap.size W w' := by
  have hX := World.block_lt_of_cell? _ _ hc
  simp only at hX
  have c2 : (W.alloc (.cells #[.string b, .int .i64 m, .int .i64 v] 74)).cell? ⟨X, 0, none⟩ = some (.string c) := (World.cell?_alloc_past _ _ _ hX).trans hc
  go_enter Tryz.func191, Tryz.ntmps191
  go_wp2
  go_ret
  exact ⟨rfl, Bl.alloc (Below.refl _ _) _⟩
set_option maxHeartbeats 2000000 in
theorem IndexWP_any (ws : List Wk) (vw : Value) (c : ByteArray) (X : Nat) (w : World) (_ : ws.length ≤ 1000) (rl : RecR TW w 0 vw ws) (hc : w.cell? ⟨X, 0, none⟩ = some (.string c)) :
    Calls Tryz.prog 192 #[vw, .func (.func 191) #[] #[.pointer (some ⟨X, 0, none⟩)]] w fun e w' => (∃ r : Int, e = .returned (.int .i64 r) ∧ decide (0 ≤ r) = ws.any (fun y => y.1.toList == c.toList)) ∧ Below w.heap.size w w' := by
  obtain ⟨a, cap, rfl, hc1, hc2⟩ := rl.form
  have hX := World.block_lt_of_cell? _ _ hc
  simp only at hX
  go_enter Tryz.func192, Tryz.ntmps192
  go_wp2
  go_loopw [8] (fun i wr => ∃ k : Nat, k ≤ ws.length ∧ i = .int .i64 k ∧ Hid ((ws.take k).any (fun y => y.1.toList == c.toList) = false) ∧ Below w.heap.size w wr) (fun i _ => ws.length - (intOf i).toNat)
  case atStart => exact ⟨0, Nat.zero_le _, rfl, Lib.hid rfl, Below.refl _ _⟩
  case round =>
    obtain ⟨k, hk, rfl, hf, hb⟩ := hrel
    by_cases hlt : k < ws.length
    · obtain ⟨x, hx⟩ : ∃ x, ws[k]? = some x := ⟨_, List.getElem?_eq_getElem hlt⟩
      have HS : Hid ((ws.take (k + 1)).any (fun y => y.1.toList == c.toList) = ((ws.take k).any (fun y => y.1.toList == c.toList) || (x.1.toList == c.toList))) := Lib.hid (by rw [take_snoc hx]; simp)
      have HM := Lib.hid (List.mem_of_getElem? hx)
      have HC := Lib.hid (sameP_any x.1 c x.2.1 x.2.2 X wr (((bcell hb).1 X 0 hX).trans hc))
      obtain ⟨b2, o2, rfl, _, hl2, y1, y2, y3⟩ := works_at (rl.below hb) hx
      clear hx
      obtain ⟨xb, xm, xv⟩ := x
      simp only at y1 y2 y3 HS HC
      have HM2 := Lib.hid (fun h : (xb.toList == c.toList) = true => (List.any_eq_true.2 ⟨_, HM.out, h⟩ : ws.any (fun y => y.1.toList == c.toList) = true))
      generalize hp : (xb.toList == c.toList) = pb at *
      have HP := Lib.hid hp
      clear hp
      cases pb
      all_goals
        go_wp2_with fail
        refine HC.out.mono ?_
        rintro e w2 ⟨rfl, hb2⟩
        go_wp2
      · go_roundw
        case rel => exact ⟨k + 1, by omega, by go_num, Lib.hid (by rw [HS.out, hf.out]; rfl), hb.trans (hb2.mono hb.size)⟩
        case measure => simp [intOf]; omega
      · go_ret
        refine ⟨⟨_, rfl, ?_⟩, hb.trans (hb2.mono hb.size)⟩
        rw [HM2.out (by first | rfl | trivial)]; simp
    · have hk2 : k = ws.length := by omega
      subst hk2
      rw [List.take_length] at hf
      go_wp2
      go_ret
      exact ⟨⟨_, rfl, by rw [hf.out]; rfl⟩, hb⟩
set_option maxHeartbeats 1000000 in
theorem ContainsWP_any (ws : List Wk) (vw : Value) (c : ByteArray) (X : Nat) (w : World) (hlen : ws.length ≤ 1000) (rl : RecR TW w 0 vw ws) (hc : w.cell? ⟨X, 0, none⟩ = some (.string c)) :
    Calls Tryz.prog 122 #[vw, .func (.func 191) #[] #[.pointer (some ⟨X, 0, none⟩)]] w fun e w' => e = .returned (.bool (ws.any (fun y => y.1.toList == c.toList))) ∧ Below w.heap.size w w' := by
  go_enter Tryz.func122, Tryz.ntmps122
  go_wp2_with fail
  refine (IndexWP_any ws vw c X _ hlen rl hc).mono ?_
  rintro e w2 ⟨⟨r, rfl, hr⟩, hb⟩
  have HR := Lib.hid hr
  clear hr
  go_wp2
  go_ret
  exact ⟨ret_bool HR.out, hb⟩
set_option maxHeartbeats 8000000 in
set_option maxRecDepth 100000 in
theorem ChooseFault_any (ws : List Wk) (m : Int) (vw : Value) (w : World) (hlen : ws.length ≤ 100) (hsz : ∀ x ∈ ws, x.1.size ≤ 1000) (rl : RecR TW w 0 vw ws) :
    Calls Tryz.prog 52 #[vw, .int .i64 m] w fun e w' => (∃ f : Int, e = .returned (.int .i64 f) ∧ (f = 0 → GoodW keyB ws ∧ 0 ≤ m ∧ m ≤ 10000)) ∧ Below w.heap.size w w' := by
  obtain ⟨a, cap, rfl, hc1, hc2⟩ := rl.form
  have hmf : ∀ (fn : Fn) (first cap : Array Value) (w : World), (Instr.makeFunc fn first cap).run Tryz.prog w = .ok (.func fn first cap) w := fun _ _ _ _ => rfl
  have HSZ := Lib.hid hsz
  clear hsz
  by_cases h14 : 14 < ws.length
  · have e1 : (14 : Int) < ws.length := by omega
    go_enter Tryz.func52, Tryz.ntmps52
    go_wp2
    go_ret
    exact ⟨⟨_, rfl, fun h => by cases h⟩, Below.refl _ _⟩
  · have e1 : ¬ (14 : Int) < ws.length := by omega
    go_enter Tryz.func52, Tryz.ntmps52
    go_wp2
    go_loopw [12] (fun i wr => ∃ k : Nat, k ≤ ws.length ∧ i = .int .i64 k ∧ Hid (GoodW keyB (ws.take k)) ∧ Below w.heap.size w wr) (fun i _ => ws.length - (intOf i).toNat)
    case atStart => exact ⟨0, Nat.zero_le _, rfl, Lib.hid ⟨by simp, by simp, fun i j x y _ h => by simp at h⟩, Below.refl _ _⟩
    case round =>
      obtain ⟨k, hk, rfl, hg, hb⟩ := hrel
      by_cases hlt : k < ws.length
      · obtain ⟨x, hx⟩ : ∃ x, ws[k]? = some x := ⟨_, List.getElem?_eq_getElem hlt⟩
        have HX := Lib.hid hx
        obtain ⟨b2, o2, hae, _, hl2, y1, y2, y3⟩ := works_at (rl.below hb) hx
        subst hae
        have hbn := Bl.alloc hb (.cells #[.string x.1, .int .i64 x.2.1, .int .i64 x.2.2] 74)
        have hnb := blk_new wr (.cells #[.string x.1, .int .i64 x.2.1, .int .i64 x.2.2] 74)
        have HK := Lib.hid (fun W => Key_any x.1 W (by have := HSZ.out x (List.mem_of_getElem? hx); omega))
        have HCT := Lib.hid (fun (W : World) (h1 : Below w.heap.size w W) (h2 : W.cell? ⟨wr.heap.size, 0, none⟩ = some (.string x.1)) => ContainsWR_any (ws.take k) (.slice (some ⟨b2, o2, none⟩) k cap) x.1 wr.heap.size W (by simp; omega) (rec_take (rl.below h1) (by omega)) h2)
        clear hx
        obtain ⟨xb, xm, xv⟩ := x
        simp only at y1 y2 y3 hbn hnb HK HCT
        have HN := Lib.hid (fun h1 h2 h3 h4 => hg.out.snoc HX.out h1 h2 h3 (by omega) h4)
        simp only at HN
        cases hkb : keyB xb
        · rw [hkb] at HK
          clear hkb HN
          go_wp2_with fail
          refine (HK.out _).mono ?_
          rintro e w2 ⟨rfl, hb2⟩
          go_wp2
          go_ret
          exact ⟨⟨_, rfl, fun h => by cases h⟩, Bl.trans hbn hb2⟩
        · have HKB := Lib.hid hkb
          rw [hkb] at HK
          clear hkb
          cases hm1 : inB 0 xm 10000
          · go_wp2_with fail
            refine (HK.out _).mono ?_
            rintro e w2 ⟨rfl, hb2⟩
            have hn2 := blk_below hnb hb2
            have z1 := blk_cell hn2 1
            go_wp2_with fail
            refine (in_any xm 0 10000 _).mono ?_
            rintro e w' ⟨rfl, rfl⟩
            go_wp2
            go_ret
            exact ⟨⟨_, rfl, fun h => by cases h⟩, Bl.trans hbn hb2⟩
          · have HM1 : Hid (0 ≤ xm ∧ xm ≤ 10000) := Lib.hid (by unfold inB at hm1; simpa using hm1)
            cases hv1 : inB 0 xv 1000000000
            · go_wp2_with fail
              refine (HK.out _).mono ?_
              rintro e w2 ⟨rfl, hb2⟩
              have hn2 := blk_below hnb hb2
              have z1 := blk_cell hn2 1
              have z2 := blk_cell hn2 2
              go_wp2_with fail
              refine (in_any xm 0 10000 _).mono ?_
              rintro e w' ⟨rfl, rfl⟩
              go_wp2_with fail
              refine (in_any xv 0 1000000000 _).mono ?_
              rintro e w' ⟨rfl, rfl⟩
              go_wp2
              go_ret
              exact ⟨⟨_, rfl, fun h => by cases h⟩, Bl.trans hbn hb2⟩
            · have HV1 : Hid (0 ≤ xv ∧ xv ≤ 1000000000) := Lib.hid (by unfold inB at hv1; simpa using hv1)
              generalize hany : ((ws.take k).any fun y => y.1.toList == xb.toList) = an at *
              have HAN := Lib.hid hany
              clear hany
              cases an
              all_goals
                go_wp2_with fail
                refine (HK.out _).mono ?_
                rintro e w2 ⟨rfl, hb2⟩
                have hn2 := blk_below hnb hb2
                have z0 := blk_cell hn2 0
                have z1 := blk_cell hn2 1
                have z2 := blk_cell hn2 2
                have hb02 := Bl.trans hbn hb2
                go_wp2_with fail
                refine (in_any xm 0 10000 _).mono ?_
                rintro e w' ⟨rfl, rfl⟩
                go_wp2_with fail
                refine (in_any xv 0 1000000000 _).mono ?_
                rintro e w' ⟨rfl, rfl⟩
                go_wp2_with fail
                refine (HCT.out w2 hb02 z0).mono ?_
                rintro e w3 ⟨rfl, hb3⟩
                go_wp2
              · go_roundw
                case rel => exact ⟨k + 1, by omega, by go_num, Lib.hid (HN.out HKB.out HM1.out HV1.out (by first | rfl | trivial)), Bl.trans hb02 hb3⟩
                case measure => simp [intOf]; omega
              · go_ret
                exact ⟨⟨_, rfl, fun h => by cases h⟩, Bl.trans hb02 hb3⟩
      · have hk2 : k = ws.length := by omega
        subst hk2
        rw [List.take_length] at hg
        go_wp2_with fail
        refine (SpanFault_any m 0 10000 _).mono ?_
        rintro e w' ⟨rfl, rfl⟩
        have HM : Hid (spanF m 0 10000 = 0 → 0 ≤ m ∧ m ≤ 10000) := Lib.hid (fun h => by
          unfold spanF at h
          by_cases hc : 0 ≤ m ∧ m ≤ 10000
          · exact hc
          · rw [if_neg hc] at h; cases h)
        go_wp2
        go_ret
        exact ⟨⟨_, rfl, fun h => ⟨hg.out, HM.out h⟩⟩, hb⟩
set_option maxHeartbeats 8000000 in
set_option maxRecDepth 100000 in
theorem worksFault_any (ws : List Wk) (m : Int) (vw : Value) (w : World) (hG : GoodW keyB ws) (hm0 : 0 ≤ m) (hm1 : m ≤ 10000) (hsz : ∀ x ∈ ws, x.1.size ≤ 1000) (rl : RecR TW w 0 vw ws) :
    Calls Tryz.prog 120 #[vw, .int .i64 m] w fun e w' => e = .returned (.int .i64 0) ∧ Below w.heap.size w w' := by
  obtain ⟨a, cap, rfl, hc1, hc2⟩ := rl.form
  have hmf : ∀ (fn : Fn) (first cap : Array Value) (w : World), (Instr.makeFunc fn first cap).run Tryz.prog w = .ok (.func fn first cap) w := fun _ _ _ _ => rfl
  have HSZ := Lib.hid hsz
  have hlen := hG.len
  have HG := Lib.hid hG
  clear hsz hG
  have e1 : ¬ (14 : Int) < ws.length := by omega
  go_enter Tryz.func120, Tryz.ntmps120
  go_wp2
  go_loopw [12] (fun i wr => ∃ k : Nat, k ≤ ws.length ∧ i = .int .i64 k ∧ Below w.heap.size w wr) (fun i _ => ws.length - (intOf i).toNat)
  case atStart => exact ⟨0, Nat.zero_le _, rfl, Below.refl _ _⟩
  case round =>
    obtain ⟨k, hk, rfl, hb⟩ := hrel
    by_cases hlt : k < ws.length
    · obtain ⟨x, hx⟩ : ∃ x, ws[k]? = some x := ⟨_, List.getElem?_eq_getElem hlt⟩
      have HX := Lib.hid hx
      obtain ⟨b2, o2, hae, _, hl2, y1, y2, y3⟩ := works_at (rl.below hb) hx
      subst hae
      have hbn := Bl.alloc hb (.cells #[.string x.1, .int .i64 x.2.1, .int .i64 x.2.2] 74)
      have hnb := blk_new wr (.cells #[.string x.1, .int .i64 x.2.1, .int .i64 x.2.2] 74)
      have HK := Lib.hid (fun W => IsKey_any x.1 W (by have := HSZ.out x (List.mem_of_getElem? hx); omega))
      have HCT := Lib.hid (fun (W : World) (h1 : Below w.heap.size w W) (h2 : W.cell? ⟨wr.heap.size, 0, none⟩ = some (.string x.1)) => ContainsWP_any (ws.take k) (.slice (some ⟨b2, o2, none⟩) k cap) x.1 wr.heap.size W (by simp; omega) (rec_take (rl.below h1) (by omega)) h2)
      clear hx
      obtain ⟨g1, g2, g3⟩ := HG.out.all x (List.mem_of_getElem? HX.out)
      have g4 := HG.out.any_no HX.out
      obtain ⟨xb, xm, xv⟩ := x
      simp only at y1 y2 y3 hbn hnb HK HCT g1 g2 g3 g4
      rw [g1] at HK
      rw [g4] at HCT
      have i1 : inB 0 xm 10000 = true := by unfold inB; simp; omega
      have i2 : inB 0 xv 1000000000 = true := by unfold inB; simp; omega
      have HO1 := Lib.hid (fun W => Outside_any xm 0 10000 W)
      have HO2 := Lib.hid (fun W => Outside_any xv 0 1000000000 W)
      rw [i1] at HO1
      rw [i2] at HO2
      clear g1 g2 g3 g4 i1 i2
      go_wp2_with fail
      refine (HK.out _).mono ?_
      rintro e w2 ⟨rfl, hb2⟩
      have hn2 := blk_below hnb hb2
      have z0 := blk_cell hn2 0
      have z1 := blk_cell hn2 1
      have z2 := blk_cell hn2 2
      have hb02 := Bl.trans hbn hb2
      go_wp2_with fail
      refine (HO1.out _).mono ?_
      rintro e w' ⟨rfl, rfl⟩
      go_wp2_with fail
      refine (HO2.out _).mono ?_
      rintro e w' ⟨rfl, rfl⟩
      go_wp2_with fail
      refine (HCT.out w2 hb02 z0).mono ?_
      rintro e w3 ⟨rfl, hb3⟩
      go_wp2
      go_roundw
      case rel => exact ⟨k + 1, by omega, by go_num, Bl.trans hb02 hb3⟩
      case measure => simp [intOf]; omega
    · have hk2 : k = ws.length := by omega
      subst hk2
      have HO := Lib.hid (fun W => Outside_any m 0 10000 W)
      rw [show inB 0 m 10000 = true by unfold inB; simp; omega] at HO
      go_wp2_with fail
      refine (HO.out _).mono ?_
      rintro e w' ⟨rfl, rfl⟩
      go_wp2
      go_ret
      exact ⟨rfl, hb⟩
theorem OrQ_any (l : List Int) (v : Value) (w : World) (h : l.length ≤ 1000) (rl : Ints w 0 v l) :
    Calls Tryz.prog 151 #[v] w fun e w' => e = .returned (.int .i64 (orF l)) ∧ w = w' := (OrInt_any l v w h rl).mono fun _ _ ⟨h1, h2⟩ => ⟨h1, h2.symm⟩
set_option maxHeartbeats 4000000 in
set_option maxRecDepth 100000 in
theorem better_any (la lb : List Int) (a1 a2 b1 b2 : Int) (va vb : Value) (w : World) (hla : la.length ≤ 1000) (hlb : lb.length ≤ 1000) (ra : Ints w 0 va la) (rb : Ints w 0 vb lb) :
    Calls Tryz.prog 121 #[.agg #[va, .int .i64 a1, .int .i64 a2], .agg #[vb, .int .i64 b1, .int .i64 b2]] w fun e w' => e = .returned (.bool (decide (orF [cmpI b1 a1, cmpI a2 b2, cmpL la lb] < 0))) ∧ Below w.heap.size w w' := by
  have hA := blk_old (blk_new w (.cells #[va, .int .i64 a1, .int .i64 a2] 170)) (.cells #[vb, .int .i64 b1, .int .i64 b2] 170)
  have hB := blk_new' (w.alloc (.cells #[va, .int .i64 a1, .int .i64 a2] 170)) (.cells #[vb, .int .i64 b1, .int .i64 b2] 170) (g := w.heap.size + 1) (by simp)
  have hb2 := Bl.alloc (Bl.alloc (Below.refl w.heap.size w) (.cells #[va, .int .i64 a1, .int .i64 a2] 170)) (.cells #[vb, .int .i64 b1, .int .i64 b2] 170)
  have ra2 := (ra.alloc (.cells #[va, .int .i64 a1, .int .i64 a2] 170)).alloc (.cells #[vb, .int .i64 b1, .int .i64 b2] 170)
  have rb2 := (rb.alloc (.cells #[va, .int .i64 a1, .int .i64 a2] 170)).alloc (.cells #[vb, .int .i64 b1, .int .i64 b2] 170)
  obtain ⟨aa, ac, rfl, _, _⟩ := Ints.form ra
  obtain ⟨ba, bc, rfl, _, _⟩ := Ints.form rb
  go_enter Tryz.func121, Tryz.ntmps121
  go_wp2
  generalize (w.alloc (.cells #[.slice aa la.length ac, .int .i64 a1, .int .i64 a2] 170)).alloc (.cells #[.slice ba lb.length bc, .int .i64 b1, .int .i64 b2] 170) = w2 at *
  have c1 := blk_cell hA 0
  have c2 := blk_cell hA 1
  have c3 := blk_cell hA 2
  have c4 := blk_cell hB 0
  have c5 := blk_cell hB 1
  have c6 := blk_cell hB 2
  have HOR := Lib.hid (OrQ_any [cmpI b1 a1, cmpI a2 b2, cmpL la lb] (.slice (some ⟨w2.heap.size, 0, none⟩) 3 3) (w2.alloc (.cells #[.int .i64 (cmpI b1 a1), .int .i64 (cmpI a2 b2), .int .i64 (cmpL la lb)] 3)).drew (by simp)
          (Ints.of_blk (show (w2.alloc (.cells #[.int .i64 (cmpI b1 a1), .int .i64 (cmpI a2 b2), .int .i64 (cmpL la lb)] 3)).drew.heap[w2.heap.size]? = _ from blk_new w2 _) rfl rfl (Nat.le_refl _) (by simp) (Nat.zero_le _)))
  have HCL := Lib.hid (CompareI_any la lb _ _ w2.drew (by omega) (by omega) (show Ints w2.drew 0 _ _ from ra2.below (Below.drew (Below.refl _ _))) (show Ints w2.drew 0 _ _ from rb2.below (Below.drew (Below.refl _ _))))
  clear hA hB ra rb ra2 rb2
  generalize hcl : cmpL la lb = cl at *
  have HCLE := Lib.hid hcl
  clear hcl
  go_region_held2 (fun W : World => W.cell? ⟨w.heap.size, 0, none⟩ = some (.slice aa la.length ac) ∧ W.cell? ⟨w.heap.size, 1, none⟩ = some (.int .i64 a1) ∧ W.cell? ⟨w.heap.size, 2, none⟩ = some (.int .i64 a2) ∧ W.cell? ⟨w.heap.size + 1, 0, none⟩ = some (.slice ba lb.length bc) ∧ W.cell? ⟨w.heap.size + 1, 1, none⟩ = some (.int .i64 b1) ∧ W.cell? ⟨w.heap.size + 1, 2, none⟩ = some (.int .i64 b2))
    (go_keep)
    (first
      | (go_at_call 98; refine (cmpInt_any _ _ _).mono ?_; rintro e w' ⟨rfl, rfl⟩)
      | (go_at_call 159; refine HCL.out.mono ?_; rintro e w' ⟨rfl, rfl⟩)
      | (go_at_call 151; refine HOR.out.mono ?_; rintro e w' ⟨rfl, rfl⟩))
  all_goals (
    go_wp2
    go_ret
    exact ⟨by rw [HCLE.out] <;> rfl, Below.drew (Bl.alloc hb2 _)⟩)
theorem better_yes {a1 a2 b1 b2 cl : Int} (h : decide (orF [cmpI b1 a1, cmpI a2 b2, cl] < 0) = true) : b1 ≤ a1 := by
  have h' := of_decide_eq_true h
  unfold cmpI orF at h'
  by_cases e : b1 < a1
  · omega
  · by_cases e2 : a1 < b1
    · simp [e, e2] at h'
    · omega
theorem better_no {a1 a2 b1 b2 cl : Int} (h : decide (orF [cmpI b1 a1, cmpI a2 b2, cl] < 0) = false) : a1 ≤ b1 := by
  have h' := of_decide_eq_false h
  unfold cmpI orF at h'
  by_cases e : b1 < a1
  · simp [e] at h'
  · omega
end Go.Proofs.YtnmimagninhkkaaGreatDoor
