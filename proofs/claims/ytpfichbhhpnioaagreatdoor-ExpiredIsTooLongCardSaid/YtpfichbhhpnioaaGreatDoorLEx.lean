/- The contracts of Expires and ExpiresOf. Conditions: a short key, a bake time in its range, at most 500 stays. -/
import Derived.Test.YtpfichbhhpnioaaGreatDoorLUseR
namespace Go.Proofs.YtpfichbhhpnioaaGreatDoor
open Go.RowKit Go.Sort

def optV : Option Int → Int × Bool
  | none => (0, false)
  | some t => (t, true)
def exO (lv bk : Int) (l : List Sty) : Int × Bool := if lv = 1 then (0, false) else optV (expiP (lifeV lv) (expo lv bk l) l)
def exP (key : ByteArray) (lv bk : Int) (l : List Sty) : Int × Bool := if livF key lv l = 0 then exO lv bk l else (0, false)
theorem expiP_no {most : Int} {X : Int → Int} {x : Sty} {r : List Sty} {t : Int} (ht : x.2 + max 0 (most - X x.2 + 1) = t) (h : ¬(x.1 = 2 ∧ t ≤ endP r ∧ most < X t)) : expiP most X (x :: r) = expiP most X r := by
  rw [expiP, ht, if_neg h]
theorem expiP_yes {most : Int} {X : Int → Int} {x : Sty} {r : List Sty} {t : Int} (ht : x.2 + max 0 (most - X x.2 + 1) = t) (h : x.1 = 2 ∧ t ≤ endP r ∧ most < X t) : expiP most X (x :: r) = some t := by
  rw [expiP, ht, if_pos h]
theorem expiR_no {most : Int} {X : Int → Int} {x : Sty} {r : List Sty} {t : Int} (ht : x.2 + most - X x.2 + 1 = t) (h : ¬(x.1 = 2 ∧ t ≤ endR r ∧ t < lvN ∧ most < X t)) : expiR most X (x :: r) = expiR most X r := by
  rw [expiR, ht, if_neg h]
theorem expiR_yes {most : Int} {X : Int → Int} {x : Sty} {r : List Sty} {t : Int} (ht : x.2 + most - X x.2 + 1 = t) (h : x.1 = 2 ∧ t ≤ endR r ∧ t < lvN ∧ most < X t) : expiR most X (x :: r) = some t := by
  rw [expiR, ht, if_pos h]
set_option maxHeartbeats 8000000 in
set_option maxRecDepth 100000 in
theorem Expires_any (key : ByteArray) (lv bk : Int) (l : List Sty) (v : Value) (w : World) (hk : key.size ≤ 1000) (hbk : 0 ≤ bk ∧ bk ≤ 720000000) (hl : l.length ≤ 500) (rl : RecR TY w 0 v l) :
    Calls Tryz.prog 20 #[partV key ⟨#[113]⟩ lv bk, v] w fun e w' => e = .returned (.tuple #[.int .i64 (exP key lv bk l).1, .bool (exP key lv bk l).2, .int .i64 (livF key lv l)]) ∧ Below w.heap.size w w' := by
  have hb0 := Bl.alloc (Below.refl w.heap.size w) (.cells #[.string key, .string ⟨#[113]⟩, .int .i64 lv, .int .i64 bk] 27)
  have hP0 := blk_new w (.cells #[.string key, .string ⟨#[113]⟩, .int .i64 lv, .int .i64 bk] 27)
  have HP := Lib.hid (partStaysFault_any key lv bk l v _ hk hbk hl (rl.alloc (.cells #[.string key, .string ⟨#[113]⟩, .int .i64 lv, .int .i64 bk] 27)))
  unfold partV at HP ⊢
  go_enter Tryz.func20, Tryz.ntmps20
  go_wp2_with fail
  refine HP.out.mono ?_
  rintro e w2 ⟨rfl, hb2⟩
  have hb02 := Bl.trans hb0 hb2
  have hPx := blk_below hP0 hb2
  have rl2 := rl.below hb02
  have n2 : w2.cell? ⟨w.heap.size, 2, none⟩ = some (.int .i64 lv) := blk_cell hPx 2
  clear HP rl hP0 hb0 hb2
  by_cases h0 : livF key lv l = 0
  · have HL := Lib.hid h0
    have hlv := catF_zero (livF_zero h0).1
    have hasc := (stF_asc (livF_zero h0).2).1
    have HR : Hid (exP key lv bk l = exO lv bk l) := Lib.hid (by unfold exP; rw [if_pos h0])
    rw [h0]
    by_cases h1 : lv = 1
    · have HO : Hid (exO lv bk l = (0, false)) := Lib.hid (by unfold exO; rw [if_pos h1])
      clear h0 hasc rl2
      go_wp2
      go_ret3
      exact ⟨by rw [HR.out, HL.out, HO.out] <;> rfl, hb02⟩
    · have hne : (lv == 1) = false := by simpa using h1
      have HR : Hid (exP key lv bk l = optV (expiP (lifeV lv) (expo lv bk l) l)) := Lib.hid (by rw [HR.out]; unfold exO; rw [if_neg h1])
      have hlb := lifeV_bd lv
      obtain ⟨a, cap, rfl, hc1, hc2⟩ := RecR.form rl2
      have HE := Lib.hid (show ∀ t W, 0 ≤ t → t ≤ 345686400000 → Below w2.heap.size w2 W → Calls Tryz.prog 79 #[.agg #[.string key, .string ⟨#[113]⟩, .int .i64 lv, .int .i64 bk], .slice a l.length cap, .int .i64 t] W fun e w' => e = .returned (.int .i64 (expo lv bk l t)) ∧ Below W.heap.size W w' from fun t W t0 t1 hW => exposed_any key ⟨#[113]⟩ lv bk t l _ W hl hasc t0 t1 (rl2.below hW))
      have HRL := Lib.hid (show ∀ W, Below w2.heap.size w2 W → RecR TY W 0 (.slice a l.length cap) l from fun W hW => rl2.below hW)
      have HA := Lib.hid hasc
      have HLF := Lib.hid (life_any lv w2 hlv)
      clear h0 hasc rl2
      go_wp2_with fail
      refine HLF.out.mono ?_
      rintro e w' ⟨rfl, rfl⟩
      go_wp2
      go_loopw [27] (fun i wr => ∃ k : Nat, k ≤ l.length ∧ i = .int .i64 k ∧ Hid (expiP (lifeV lv) (expo lv bk l) l = expiP (lifeV lv) (expo lv bk l) (l.drop k)) ∧ Below w2.heap.size w2 wr) (fun i _ => l.length - (intOf i).toNat)
      case atStart => exact ⟨0, Nat.zero_le _, rfl, Lib.hid rfl, Below.refl _ _⟩
      case round =>
        obtain ⟨k, hk, rfl, hE, hb⟩ := hrel
        by_cases hlt : k < l.length
        · skip
          obtain ⟨⟨x1, x2⟩, hx⟩ : ∃ x, l[k]? = some x := ⟨_, List.getElem?_eq_getElem hlt⟩
          have rlr := HRL.out wr hb
          obtain ⟨b, o, rfl, _, hlb, hc⟩ := rlr.at TY.ok.len hx TY.ok.pos
          have c0 : wr.cell? ⟨b, o + k * 2, none⟩ = some (.int .i64 x1) := hc 0 _ rfl
          have c1 : wr.cell? ⟨b, o + k * 2 + 1, none⟩ = some (.int .i64 x2) := hc 1 _ rfl
          have hd := drop_at hx
          have hx2 : 0 ≤ x2 ∧ x2 < lvN := by
            have ha' : AscS (l.drop k) := ascS_drop HA.out k
            rw [hd] at ha'
            exact ha'.head
          have hxn : ∀ y r, l.drop (k + 1) = y :: r → y.2 < lvN := fun y r he => by
            have ha' : AscS (l.drop (k + 1)) := ascS_drop HA.out (k + 1)
            rw [he] at ha'
            exact ha'.head.2
          rw [lvN_val] at hx2 hxn
          have hbx := expo_bd (lv := lv) (bk := bk) HA.out hx2.1
          have hPr := blk_below hPx hb
          have hbs := Bl.alloc hb (.cells #[.int .i64 x1, .int .i64 x2] 39)
          have hPs := blk_old hPr (.cells #[.int .i64 x1, .int .i64 x2] 39)
          have hSs := blk_new wr (.cells #[.int .i64 x1, .int .i64 x2] 39)
          have hw1 : IntKind.i64.wrap ((k : Int) + 1) = ((k + 1 : Nat) : Int) := by rw [IntWalk.i64_in _ (by omega)]; omega
          by_cases hf : x1 = 2
          · subst hf
            by_cases h2 : k + 1 < l.length
            · skip
              obtain ⟨⟨y1, y2⟩, hy⟩ : ∃ y, l[k + 1]? = some y := ⟨_, List.getElem?_eq_getElem h2⟩
              obtain ⟨b', o', hab, _, _, hcy⟩ := rlr.at TY.ok.len hy TY.ok.pos
              injection hab with hab
              injection hab with e1 e2 _
              subst e1 e2
              have d1 : wr.cell? ⟨b, o + (k + 1) * 2 + 1, none⟩ = some (.int .i64 y2) := hcy 1 _ rfl
              have hyb : y2 < 345686400000 := hxn _ _ (drop_at hy)
              have hEn : Hid (endP (l.drop (k + 1)) = y2) := Lib.hid (by rw [drop_at hy]; rfl)
              clear hcy hy
              have hw2 : IntKind.i64.wrap (lifeV lv - expo lv bk l x2) = lifeV lv - expo lv bk l x2 := IntWalk.i64_in _ (by omega)
              have hw3 : IntKind.i64.wrap (lifeV lv - expo lv bk l x2 + 1) = lifeV lv - expo lv bk l x2 + 1 := IntWalk.i64_in _ (by omega)
              have hw4 : IntKind.i64.wrap (x2 + max 0 (lifeV lv - expo lv bk l x2 + 1)) = x2 + max 0 (lifeV lv - expo lv bk l x2 + 1) := IntWalk.i64_in _ (by omega)
              clear hc hx rlr
              go_wp2
              generalize wr.alloc (.cells #[.int .i64 2, .int .i64 x2] 39) = ws at *
              have s0 : ws.cell? ⟨wr.heap.size, 0, none⟩ = some (.int .i64 2) := blk_cell hSs 0
              have s1 : ws.cell? ⟨wr.heap.size, 1, none⟩ = some (.int .i64 x2) := blk_cell hSs 1
              have p0 : ws.cell? ⟨w.heap.size, 0, none⟩ = some (.string key) := blk_cell hPs 0
              have p1 : ws.cell? ⟨w.heap.size, 1, none⟩ = some (.string ⟨#[113]⟩) := blk_cell hPs 1
              have p2 : ws.cell? ⟨w.heap.size, 2, none⟩ = some (.int .i64 lv) := blk_cell hPs 2
              have p3 : ws.cell? ⟨w.heap.size, 3, none⟩ = some (.int .i64 bk) := blk_cell hPs 3
              have e0 := cell_regrown p0
              have e1 := cell_regrown p1
              have e2 := cell_regrown p2
              have e3 := cell_regrown p3
              have e4 := cell_regrown s0
              have e5 := cell_regrown s1
              have HX := Lib.hid (fun (t : Int) (h0 : 0 ≤ t) (h1 : t ≤ 345686400000) (d : Nat) (os : Array Obj) => Calls.regrown_of (w := ws) (d := d) (os := os) (HE.out t _ h0 h1 (Bl.trans hbs (below_regrown ws d os))))
              refine wp_region_quiet_below (by kernel_rfl) (by kernel_rfl) ?_
              repeat (go_big_quiet_step ((go_at_call 79; exact HX.out _ (by omega) (by omega) _ _)))
              refine wpQuiet_nil ?_
              intro w4 hw'
              obtain ⟨⟨dq, osq⟩, hw''⟩ := hw'
              have hb4 : Below ws.heap.size ws w4 := hw'' ▸ below_regrown ws dq osq
              have hb04 := Bl.trans hbs hb4
              have hP4 := blk_below hPs hb4
              have hS4 := blk_below hSs hb4
              have t0 : w4.cell? ⟨wr.heap.size, 0, none⟩ = some (.int .i64 2) := blk_cell hS4 0
              have t1 : w4.cell? ⟨wr.heap.size, 1, none⟩ = some (.int .i64 x2) := blk_cell hS4 1
              have m0 : w4.cell? ⟨w.heap.size, 0, none⟩ = some (.string key) := blk_cell hP4 0
              have m1 : w4.cell? ⟨w.heap.size, 1, none⟩ = some (.string ⟨#[113]⟩) := blk_cell hP4 1
              have m2 : w4.cell? ⟨w.heap.size, 2, none⟩ = some (.int .i64 lv) := blk_cell hP4 2
              have m3 : w4.cell? ⟨w.heap.size, 3, none⟩ = some (.int .i64 bk) := blk_cell hP4 3
              clear hw'' e0 e1 e2 e3 e4 e5 HX p0 p1 p2 p3 s0 s1
              obtain ⟨tt, htt⟩ : ∃ tt, x2 + max 0 (lifeV lv - expo lv bk l x2 + 1) = tt := ⟨_, rfl⟩
              have ht0 : 0 ≤ tt := by omega
              rw [htt] at hw4
              have HNO := Lib.hid (expiP_no (most := lifeV lv) (X := expo lv bk l) (x := (2, x2)) (r := l.drop (k + 1)) htt)
              have HYES := Lib.hid (expiP_yes (most := lifeV lv) (X := expo lv bk l) (x := (2, x2)) (r := l.drop (k + 1)) htt)
              by_cases g1 : tt ≤ y2
              · have HCt := Lib.hid (HE.out tt w4 ht0 (by omega) hb04)
                obtain ⟨xt, hxt⟩ : ∃ xt, expo lv bk l tt = xt := ⟨_, rfl⟩
                rw [hxt] at HCt
                by_cases g2 : lifeV lv < xt
                · have HV : Hid (expiP (lifeV lv) (expo lv bk l) l = some tt) := Lib.hid (by rw [hE.out, hd]; exact HYES.out ⟨rfl, by rw [hEn.out]; exact g1, by rw [hxt]; exact g2⟩)
                  clear hd hE hEn hxn HNO HYES
                  go_wp2_with fail
                  (try rw [htt])
                  refine HCt.out.mono ?_
                  rintro e w5 ⟨rfl, hb5⟩
                  go_wp2
                  go_ret3
                  exact ⟨by
                    rw [HR.out, HL.out, HV.out]
                    show Ending.returned (.tuple #[.int .i64 _, .bool true, .int .i64 0]) = _
                    first | rfl | (rw [htt]; rfl), Bl.trans hb02 (Bl.trans hb04 hb5)⟩
                · have HN : Hid (expiP (lifeV lv) (expo lv bk l) l = expiP (lifeV lv) (expo lv bk l) (l.drop (k + 1))) := Lib.hid (by rw [hE.out, hd]; exact HNO.out (fun h => g2 (by have := h.2.2; rw [hxt] at this; exact this)))
                  clear hd hE hEn hxn HNO HYES
                  go_wp2_with fail
                  (try rw [htt])
                  refine HCt.out.mono ?_
                  rintro e w5 ⟨rfl, hb5⟩
                  go_wp2
                  go_roundw
                  case rel => exact ⟨k + 1, by omega, by go_num, HN, Bl.trans hb04 hb5⟩
                  case measure => simp [intOf]; omega
              · have HN : Hid (expiP (lifeV lv) (expo lv bk l) l = expiP (lifeV lv) (expo lv bk l) (l.drop (k + 1))) := Lib.hid (by rw [hE.out, hd]; exact HNO.out (fun h => g1 (by have := h.2.1; rw [hEn.out] at this; exact this)))
                have g1' : ¬x2 + max 0 (lifeV lv - expo lv bk l x2 + 1) ≤ y2 := by rw [htt]; exact g1
                clear hd hE hEn hxn HNO HYES
                go_wp2
                go_roundw
                case rel => exact ⟨k + 1, by omega, by go_num, HN, hb04⟩
                case measure => simp [intOf]; omega
            · have hEn : Hid (endP (l.drop (k + 1)) = 345686399999) := Lib.hid (by rw [List.drop_eq_nil_of_le (by omega)]; rfl)
              have hw2 : IntKind.i64.wrap (lifeV lv - expo lv bk l x2) = lifeV lv - expo lv bk l x2 := IntWalk.i64_in _ (by omega)
              have hw3 : IntKind.i64.wrap (lifeV lv - expo lv bk l x2 + 1) = lifeV lv - expo lv bk l x2 + 1 := IntWalk.i64_in _ (by omega)
              have hw4 : IntKind.i64.wrap (x2 + max 0 (lifeV lv - expo lv bk l x2 + 1)) = x2 + max 0 (lifeV lv - expo lv bk l x2 + 1) := IntWalk.i64_in _ (by omega)
              clear hc hx rlr
              go_wp2
              generalize wr.alloc (.cells #[.int .i64 2, .int .i64 x2] 39) = ws at *
              have s0 : ws.cell? ⟨wr.heap.size, 0, none⟩ = some (.int .i64 2) := blk_cell hSs 0
              have s1 : ws.cell? ⟨wr.heap.size, 1, none⟩ = some (.int .i64 x2) := blk_cell hSs 1
              have p0 : ws.cell? ⟨w.heap.size, 0, none⟩ = some (.string key) := blk_cell hPs 0
              have p1 : ws.cell? ⟨w.heap.size, 1, none⟩ = some (.string ⟨#[113]⟩) := blk_cell hPs 1
              have p2 : ws.cell? ⟨w.heap.size, 2, none⟩ = some (.int .i64 lv) := blk_cell hPs 2
              have p3 : ws.cell? ⟨w.heap.size, 3, none⟩ = some (.int .i64 bk) := blk_cell hPs 3
              have e0 := cell_regrown p0
              have e1 := cell_regrown p1
              have e2 := cell_regrown p2
              have e3 := cell_regrown p3
              have e4 := cell_regrown s0
              have e5 := cell_regrown s1
              have HX := Lib.hid (fun (t : Int) (h0 : 0 ≤ t) (h1 : t ≤ 345686400000) (d : Nat) (os : Array Obj) => Calls.regrown_of (w := ws) (d := d) (os := os) (HE.out t _ h0 h1 (Bl.trans hbs (below_regrown ws d os))))
              refine wp_region_quiet_below (by kernel_rfl) (by kernel_rfl) ?_
              repeat (go_big_quiet_step ((go_at_call 79; exact HX.out _ (by omega) (by omega) _ _)))
              refine wpQuiet_nil ?_
              intro w4 hw'
              obtain ⟨⟨dq, osq⟩, hw''⟩ := hw'
              have hb4 : Below ws.heap.size ws w4 := hw'' ▸ below_regrown ws dq osq
              have hb04 := Bl.trans hbs hb4
              have hP4 := blk_below hPs hb4
              have hS4 := blk_below hSs hb4
              have t0 : w4.cell? ⟨wr.heap.size, 0, none⟩ = some (.int .i64 2) := blk_cell hS4 0
              have t1 : w4.cell? ⟨wr.heap.size, 1, none⟩ = some (.int .i64 x2) := blk_cell hS4 1
              have m0 : w4.cell? ⟨w.heap.size, 0, none⟩ = some (.string key) := blk_cell hP4 0
              have m1 : w4.cell? ⟨w.heap.size, 1, none⟩ = some (.string ⟨#[113]⟩) := blk_cell hP4 1
              have m2 : w4.cell? ⟨w.heap.size, 2, none⟩ = some (.int .i64 lv) := blk_cell hP4 2
              have m3 : w4.cell? ⟨w.heap.size, 3, none⟩ = some (.int .i64 bk) := blk_cell hP4 3
              clear hw'' e0 e1 e2 e3 e4 e5 HX p0 p1 p2 p3 s0 s1
              obtain ⟨tt, htt⟩ : ∃ tt, x2 + max 0 (lifeV lv - expo lv bk l x2 + 1) = tt := ⟨_, rfl⟩
              have ht0 : 0 ≤ tt := by omega
              rw [htt] at hw4
              have HNO := Lib.hid (expiP_no (most := lifeV lv) (X := expo lv bk l) (x := (2, x2)) (r := l.drop (k + 1)) htt)
              have HYES := Lib.hid (expiP_yes (most := lifeV lv) (X := expo lv bk l) (x := (2, x2)) (r := l.drop (k + 1)) htt)
              by_cases g1 : tt ≤ 345686399999
              · have HCt := Lib.hid (HE.out tt w4 ht0 (by omega) hb04)
                obtain ⟨xt, hxt⟩ : ∃ xt, expo lv bk l tt = xt := ⟨_, rfl⟩
                rw [hxt] at HCt
                by_cases g2 : lifeV lv < xt
                · have HV : Hid (expiP (lifeV lv) (expo lv bk l) l = some tt) := Lib.hid (by rw [hE.out, hd]; exact HYES.out ⟨rfl, by rw [hEn.out]; exact g1, by rw [hxt]; exact g2⟩)
                  clear hd hE hEn hxn HNO HYES
                  go_wp2_with fail
                  (try rw [htt])
                  refine HCt.out.mono ?_
                  rintro e w5 ⟨rfl, hb5⟩
                  go_wp2
                  go_ret3
                  exact ⟨by
                    rw [HR.out, HL.out, HV.out]
                    show Ending.returned (.tuple #[.int .i64 _, .bool true, .int .i64 0]) = _
                    first | rfl | (rw [htt]; rfl), Bl.trans hb02 (Bl.trans hb04 hb5)⟩
                · have HN : Hid (expiP (lifeV lv) (expo lv bk l) l = expiP (lifeV lv) (expo lv bk l) (l.drop (k + 1))) := Lib.hid (by rw [hE.out, hd]; exact HNO.out (fun h => g2 (by have := h.2.2; rw [hxt] at this; exact this)))
                  clear hd hE hEn hxn HNO HYES
                  go_wp2_with fail
                  (try rw [htt])
                  refine HCt.out.mono ?_
                  rintro e w5 ⟨rfl, hb5⟩
                  go_wp2
                  go_roundw
                  case rel => exact ⟨k + 1, by omega, by go_num, HN, Bl.trans hb04 hb5⟩
                  case measure => simp [intOf]; omega
              · have HN : Hid (expiP (lifeV lv) (expo lv bk l) l = expiP (lifeV lv) (expo lv bk l) (l.drop (k + 1))) := Lib.hid (by rw [hE.out, hd]; exact HNO.out (fun h => g1 (by have := h.2.1; rw [hEn.out] at this; exact this)))
                have g1' : ¬x2 + max 0 (lifeV lv - expo lv bk l x2 + 1) ≤ 345686399999 := by rw [htt]; exact g1
                clear hd hE hEn hxn HNO HYES
                go_wp2
                go_roundw
                case rel => exact ⟨k + 1, by omega, by go_num, HN, hb04⟩
                case measure => simp [intOf]; omega
          · have hne2 : (x1 != 2) = true := by simpa using hf
            have HN : Hid (expiP (lifeV lv) (expo lv bk l) l = expiP (lifeV lv) (expo lv bk l) (l.drop (k + 1))) := Lib.hid (by rw [hE.out, hd]; exact expiP_no rfl (fun h => hf h.1))
            clear hc hx rlr hd hE hxn
            go_wp2
            go_roundw
            case rel => exact ⟨k + 1, by omega, by go_num, HN, hbs⟩
            case measure => simp [intOf]; omega
        · have hk2 : k = l.length := by omega
          have HV : Hid (expiP (lifeV lv) (expo lv bk l) l = none) := Lib.hid (by rw [hE.out, hk2, List.drop_length]; rfl)
          clear hE
          go_wp2
          go_ret3
          exact ⟨by rw [HR.out, HL.out, HV.out] <;> rfl, Bl.trans hb02 hb⟩
  · have HR : Hid (exP key lv bk l = (0, false)) := Lib.hid (by unfold exP; rw [if_neg h0])
    have hne : (livF key lv l != 0) = true := by simpa using h0
    clear h0 rl2
    go_wp2
    go_ret3
    exact ⟨by rw [HR.out] <;> rfl, hb02⟩
def exR (lv bk : Int) (l : List Sty) : Int × Bool := if lv = 1 then (0, false) else optV (expiR (lifeV lv) (expo lv bk l) l)
theorem exR_exO {lv bk : Int} {l : List Sty} (h : AscS l) : exR lv bk l = exO lv bk l := by
  unfold exR exO
  rw [expires_same lv bk (lifeV lv) (lifeV_bd lv).1 l h]
end Go.Proofs.YtpfichbhhpnioaaGreatDoor
