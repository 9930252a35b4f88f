/- Texts of the proof of a law, put together, part 27 of 46. Conditions: none beyond those that each theorem names. -/
import Derived.Test.YteojmljggoplkaaGreatDoorPz18
import Derived.Test.YteojmljggoplkaaGreatDoorPz20
import Derived.Test.YteojmljggoplkaaGreatDoorPz26
namespace Go.Proofs.YteojmljggoplkaaGreatDoor
open Go.RowKit Go.Sort
/-- two parts replace one another, by the reference. -/
def mutB (ps : List Prt) (l : List Alt) (a b : Bs) : Bool := decide (b ∈ reachB ps l a) && decide (a ∈ reachB ps l b)
def grpB (ps : List Prt) (l : List Alt) (a : Bs) : List Bs := (keysP ps).filter (mutB ps l a)
def grsB (ps : List Prt) (l : List Alt) (ks : List Bs) : List (List Bs) := ks.flatMap fun p => if firstB (grpB ps l) p = true then [grpB ps l p] else []
theorem grsB_all (ps : List Prt) (l : List Alt) : grsB ps l (keysP ps) = groupsR (mutB ps l) (keysP ps) := rfl
theorem keys_take {ps : List Prt} {k : Nat} {x : Prt} (h : ps[k]? = some x) : (keysP ps).take (k + 1) = (keysP ps).take k ++ [bsOf x.1] := by
  have : (keysP ps)[k]? = some (bsOf x.1) := by unfold keysP; rw [List.getElem?_map, h]; rfl
  rw [List.take_add_one, this]
  rfl
theorem keysP_len (ps : List Prt) : (keysP ps).length = ps.length := List.length_map _
theorem filter_snoc {f : Bs → Bool} {l : List Bs} {b : Bs} : (l ++ [b]).filter f = l.filter f ++ (if f b = true then [b] else []) := by
  rw [List.filter_append]
  by_cases e : f b = true
  · rw [if_pos e, List.filter_cons_of_pos e]; rfl
  · rw [if_neg e, List.filter_cons_of_neg e]; rfl
theorem grsB_snoc {ps : List Prt} {l : List Alt} {ks : List Bs} {a : Bs} : grsB ps l (ks ++ [a]) = grsB ps l ks ++ (if firstB (grpB ps l) a = true then [grpB ps l a] else []) := by
  unfold grsB
  rw [List.flatMap_append]
  simp
theorem baE_bsOf (b : ByteArray) : baOf (bsOf b) = b := by unfold baOf bsOf; simp
theorem has_mapE {L : List Bs} {k : ByteArray} : Lib.containsS (L.map baOf) k = decide (bsOf k ∈ L) := by
  rw [Bool.eq_iff_iff, Lib.containsS_iff, decide_eq_true_eq, List.mem_map]
  constructor
  · rintro ⟨s, hs, rfl⟩
    rw [bsOf_baOf]
    exact hs
  · intro h
    exact ⟨_, h, baE_bsOf k⟩
theorem keysE_in {ps : List Prt} {x : Prt} (h : x ∈ ps) : bsOf x.1 ∈ keysP ps := List.mem_map.2 ⟨x, h, rfl⟩
set_option maxHeartbeats 32000000 in
set_option maxRecDepth 100000 in
theorem GroupsOf_any (ps : List Prt) (l : List Alt) (vp va : Value) (w : World) (hl : ps.length ≤ 100000) (hl2 : l.length ≤ 100000) (h0 : catsF ps l = 0) (hc : CatR w vp va ps l) :
    Calls Tryz.prog 26 #[.agg #[vp, va]] w fun e w' => (∃ v hs, e = .returned v ∧ OwnG w' w.heap.size v hs (groupsR (mutB ps l) (keysP ps))) ∧ Below w.heap.size w w' := by
  rw [← grsB_all]
  have HRC := Lib.hid fun (k : ByteArray) (hk : bsOf k ∈ keysP ps) W (hW : Below w.heap.size w W) => reach_any ps l vp va k W hl hl2 h0 (hc.low hW) hk
  have HRP := Lib.hid fun W (hW : Below w.heap.size w W) => hc.p.below hW
  have HRL := Lib.hid fun (k : Bs) (hk : k ∈ keysP ps) => (reachB_nd h0 hk).2.2
  obtain ⟨pa, pc, rfl, _, _⟩ := hc.p.form
  obtain ⟨aa, ac, rfl, _, _⟩ := hc.a.form
  obtain ⟨w1, hw1⟩ : ∃ w1, w1 = w.alloc (.cells #[.slice pa ps.length pc, .slice aa l.length ac] 29) := ⟨_, rfl⟩
  have hA1 : Below w.heap.size w w1 := by rw [hw1]; exact Bl.alloc (Below.refl _ _) _
  have hx0 : w1.heap[w.heap.size]? = some (.cells #[.slice pa ps.length pc, .slice aa l.length ac] 29 (0, 0)) := by rw [hw1]; exact blk_new w _
  have HXC := Lib.hid (show ∀ W, Below w1.heap.size w1 W → W.cell? ⟨w.heap.size, 0, none⟩ = some (.slice pa ps.length pc) ∧ W.cell? ⟨w.heap.size, 1, none⟩ = some (.slice aa l.length ac) ∧ w.heap.size < W.heap.size from fun W hW => ⟨blk_cell (blk_below hx0 hW) 0, blk_cell (blk_below hx0 hW) 1, blk_lt (blk_below hx0 hW)⟩)
  have HW1 := Lib.hid hw1
  have HB1 := Lib.hid hA1
  clear hw1 hA1 hc h0 hx0
  go_enter Tryz.func26, Tryz.ntmps26
  go_wp2
  rw [← HW1.out]
  go_loopw [3, 12] (fun v i wr => ∃ (k : Nat) (hs : List Hdr) (G : List (List Bs)), k ≤ ps.length ∧ i = .int .i64 k ∧ Hid (OwnG wr w1.heap.size v hs G) ∧ Hid (G = grsB ps l ((keysP ps).take k)) ∧ Hid (G.length ≤ k) ∧ Hid (Below w1.heap.size w1 wr)) (fun _ i _ => ps.length - (intOf i).toNat)
  case atStart => exact ⟨0, [], [], Nat.zero_le _, rfl, Lib.hid (OwnG.nil _ _), Lib.hid rfl, Lib.hid (Nat.le_refl _), Lib.hid (Below.refl _ _)⟩
  case round =>
    obtain ⟨k, hs, G, hk, rfl, HG, HE, HGL, HB⟩ := hrel
    by_cases hlt : k < ps.length
    · obtain ⟨x, hx⟩ : ∃ x, ps[k]? = some x := ⟨_, List.getElem?_eq_getElem hlt⟩
      have HT := Lib.hid (keys_take hx)
      have HKA := Lib.hid (keysE_in (List.mem_of_getElem? hx))
      obtain ⟨bp, op, rfl, _, _, z⟩ := (HRP.out wr (Bl.trans HB1.out HB.out)).at TPt.ok.len hx TPt.ok.pos
      obtain ⟨a, xp, xl, xv⟩ := x
      have HKA := Lib.hid (show bsOf a ∈ keysP ps from HKA.out)
      have cc0 : wr.cell? ⟨bp, op + k * 4, none⟩ = some (.string a) := z 0 _ rfl
      have cc1 : wr.cell? ⟨bp, op + k * 4 + 1, none⟩ = some (.string xp) := z 1 _ rfl
      have cc2 : wr.cell? ⟨bp, op + k * 4 + 2, none⟩ = some (.int .i64 xl) := z 2 _ rfl
      have cc3 : wr.cell? ⟨bp, op + k * 4 + 3, none⟩ = some (.int .i64 xv) := z 3 _ rfl
      obtain ⟨q0, q1, lC⟩ := HXC.out wr HB.out
      have hadd : IntKind.i64.wrap ((k : Int) + 1) = ((k + 1 : Nat) : Int) := by rw [IntWalk.i64_in _ (by omega)]; omega
      obtain ⟨P, hP⟩ : ∃ P, P = wr.heap.size := ⟨_, rfl⟩
      obtain ⟨wx, hwx⟩ : ∃ wx, wx = wr.alloc (.cells #[.string a, .string xp, .int .i64 xl, .int .i64 xv] 73) := ⟨_, rfl⟩
      have hbx : Below wr.heap.size wr wx := by rw [hwx]; exact Bl.alloc (Below.refl _ _) _
      have hBX : wx.heap[P]? = some (.cells #[.string a, .string xp, .int .i64 xl, .int .i64 xv] 73 (0, 0)) := by rw [hwx, hP]; exact blk_new wr _
      have HXP : Hid (∀ W, Below wx.heap.size wx W → W.cell? ⟨P, 0, none⟩ = some (.string a) ∧ P < W.heap.size) := Lib.hid fun W hW => ⟨blk_cell (blk_below hBX hW) 0, blk_lt (blk_below hBX hW)⟩
      have HBX := Lib.hid (Bl.trans HB.out hbx)
      have HGX := Lib.hid (HG.out.low hbx)
      have HRX := Lib.hid (And.intro hP hwx)
      clear hx z hbx hBX hP hwx
      go_wp2_with fail
      rw [← HRX.out.2, ← HRX.out.1]
      clear cc0 cc1 cc2 cc3 q0 q1 lC
      go_loopw [6, 19] (fun gv i wr => ∃ (j : Nat) (cur : List Bs), j ≤ ps.length ∧ i = .int .i64 j ∧ Hid (OwnR TS wr wx.heap.size gv (cur.map baOf)) ∧ Hid (cur = ((keysP ps).take j).filter (mutB ps l (bsOf a))) ∧ Hid (Below wx.heap.size wx wr)) (fun _ i _ => ps.length - (intOf i).toNat)
      case atStart => exact ⟨0, [], Nat.zero_le _, rfl, Lib.hid (OwnR.nil _ _), Lib.hid rfl, Lib.hid (Below.refl _ _)⟩
      case round =>
        obtain ⟨j, cur, hj, rfl, HC, HCE, HBI⟩ := hrel
        have hcl : cur.length ≤ 100000 := by
          rw [HCE.out]
          refine Nat.le_trans (List.length_filter_le _ _) ?_
          rw [List.length_take, keysP_len]
          omega
        by_cases hlt2 : j < ps.length
        · obtain ⟨y, hy⟩ : ∃ y, ps[j]? = some y := ⟨_, List.getElem?_eq_getElem hlt2⟩
          have HT2 := Lib.hid (keys_take hy)
          have HKB := Lib.hid (keysE_in (List.mem_of_getElem? hy))
          have HBW := Lib.hid (Bl.trans HBX.out HBI.out)
          obtain ⟨b2, o2, e2, _, _, z⟩ := (HRP.out wr (Bl.trans HB1.out HBW.out)).at TPt.ok.len hy TPt.ok.pos
          injection e2 with e2
          injection e2 with e3 e4 _
          subst e3 e4
          obtain ⟨b, yp, yl, yv⟩ := y
          have HKB := Lib.hid (show bsOf b ∈ keysP ps from HKB.out)
          have cc0 : wr.cell? ⟨bp, op + j * 4, none⟩ = some (.string b) := z 0 _ rfl
          have cc1 : wr.cell? ⟨bp, op + j * 4 + 1, none⟩ = some (.string yp) := z 1 _ rfl
          have cc2 : wr.cell? ⟨bp, op + j * 4 + 2, none⟩ = some (.int .i64 yl) := z 2 _ rfl
          have cc3 : wr.cell? ⟨bp, op + j * 4 + 3, none⟩ = some (.int .i64 yv) := z 3 _ rfl
          have hadd2 : IntKind.i64.wrap ((j : Int) + 1) = ((j + 1 : Nat) : Int) := by rw [IntWalk.i64_in _ (by omega)]; omega
          obtain ⟨Q, hQ⟩ : ∃ Q, Q = wr.heap.size := ⟨_, rfl⟩
          obtain ⟨wy, hwy⟩ : ∃ wy, wy = wr.alloc (.cells #[.string b, .string yp, .int .i64 yl, .int .i64 yv] 73) := ⟨_, rfl⟩
          have hby' : Below wr.heap.size wr wy := by rw [hwy]; exact Bl.alloc (Below.refl _ _) _
          have hBY : wy.heap[Q]? = some (.cells #[.string b, .string yp, .int .i64 yl, .int .i64 yv] 73 (0, 0)) := by rw [hwy, hQ]; exact blk_new wr _
          have HBY := Lib.hid (Bl.trans HBI.out hby')
          have HPQ : Hid (∀ W, Below wy.heap.size wy W → W.cell? ⟨P, 0, none⟩ = some (.string a) ∧ W.cell? ⟨Q, 0, none⟩ = some (.string b)) := Lib.hid fun W hW => ⟨(HXP.out W (Bl.trans HBY.out hW)).1, blk_cell (blk_below hBY hW) 0⟩
          have HLQ : Hid (∀ W, Below wy.heap.size wy W → Q < W.heap.size) := Lib.hid fun W hW => blk_lt (blk_below hBY hW)
          have HXW : Hid (∀ W, Below wy.heap.size wy W → W.cell? ⟨w.heap.size, 0, none⟩ = some (.slice (some ⟨bp, op, none⟩) ps.length pc) ∧ W.cell? ⟨w.heap.size, 1, none⟩ = some (.slice aa l.length ac) ∧ w.heap.size < W.heap.size) := Lib.hid fun W hW => HXC.out W (Bl.trans HBX.out (Bl.trans HBY.out hW))
          have HRA := Lib.hid fun W (hW : Below wy.heap.size wy W) => HRC.out a HKA.out W (Bl.trans HB1.out (Bl.trans HBX.out (Bl.trans HBY.out hW)))
          have HRB := Lib.hid fun W (hW : Below wy.heap.size wy W) => HRC.out b HKB.out W (Bl.trans HB1.out (Bl.trans HBX.out (Bl.trans HBY.out hW)))
          obtain ⟨d1, hd1⟩ : ∃ c, c = decide (bsOf b ∈ reachB ps l (bsOf a)) := ⟨_, rfl⟩
          obtain ⟨c2, hd2⟩ : ∃ c, c = decide (bsOf a ∈ reachB ps l (bsOf b)) := ⟨_, rfl⟩
          have HM : Hid (mutB ps l (bsOf a) (bsOf b) = (d1 && c2)) := Lib.hid (by unfold mutB; rw [hd1, hd2])
          have HCA : Hid (∀ W v, OwnR TS W wy.heap.size v ((reachB ps l (bsOf a)).map baOf) → Calls Tryz.prog 64 #[v, .string b] W fun e w' => e = .returned (.bool d1) ∧ W = w') := Lib.hid fun W v hr => by
            have h1 := HasS_any _ v b W (by rw [List.length_map]; have := HRL.out _ HKA.out; omega) hr.rec0
            rw [has_mapE, ← hd1] at h1
            exact h1
          have HCB : Hid (∀ W v, OwnR TS W wy.heap.size v ((reachB ps l (bsOf b)).map baOf) → Calls Tryz.prog 64 #[v, .string a] W fun e w' => e = .returned (.bool c2) ∧ W = w') := Lib.hid fun W v hr => by
            have h1 := HasS_any _ v a W (by rw [List.length_map]; have := HRL.out _ HKB.out; omega) hr.rec0
            rw [has_mapE, ← hd2] at h1
            exact h1
          have HRY := Lib.hid (And.intro hQ hwy)
          have HCN : Hid (((keysP ps).take (j + 1)).filter (mutB ps l (bsOf a)) = cur ++ (if (d1 && c2) = true then [bsOf b] else [])) := Lib.hid (by rw [HT2.out, filter_snoc, HM.out, ← HCE.out])
          obtain ⟨q0, q1, lC⟩ := HXC.out wr HBW.out
          clear hy z hBY hQ hwy hd1 hd2
          cases d1
          · have HCN2 : Hid (cur = ((keysP ps).take (j + 1)).filter (mutB ps l (bsOf a))) := Lib.hid (by rw [HCN.out]; simp)
            go_wp2
            rw [← HRY.out.2, ← HRY.out.1]
            clear cc0 cc1 cc2 cc3
            refine wp_region_inv (by kernel_rfl) [23, 24, 25, 26, 27, 28, 29, 30, 31, 32, 33, 34, 35, 36, 37, 38] (fun _ W => Below wy.heap.size wy W) (fun W W' => Below W.heap.size W W') (fun i => [VE (.agg #[.slice (some ⟨bp, op, none⟩) ps.length pc, .slice aa l.length ac]), VE (.pointer (some ⟨P, 0, none⟩)), VE (.string a), VOw TS wy.heap.size ((reachB ps l (bsOf a)).map baOf), VE (.pointer (some ⟨Q, 0, none⟩)), VE (.string b), VE (.bool false), VE (.bool false), VT, VT, VT, VT, VT, VT, VT, VE (.bool false)].getD i VT) (by kernel_rfl) (by kernel_rfl) (fun u u' W hu h => h) (Below.drew (Below.refl _ _)) ?_ ?_ ?_ ?_
            · intro u W W' i v hB hR hV
              exact match i, hV with
                | 0, h => h
                | 1, h => h
                | 2, h => h
                | 3, h => VOw.low h hR
                | 4, h => h
                | 5, h => h
                | 6, h => h
                | 7, h => h
                | 8, _ => trivial
                | 9, _ => trivial
                | 10, _ => trivial
                | 11, _ => trivial
                | 12, _ => trivial
                | 13, _ => trivial
                | 14, _ => trivial
                | 15, h => h
                | (_ + 16), _ => trivial
            · intro i o v W ho hd
              match i, ho with
                | 0, ho => (obtain rfl := Option.some.inj ho; cases hd)
                | 1, ho => (obtain rfl := Option.some.inj ho; cases hd)
                | 2, ho => (obtain rfl := Option.some.inj ho; cases hd)
                | 3, ho => (obtain rfl := Option.some.inj ho; cases hd)
                | 4, ho => (obtain rfl := Option.some.inj ho; cases hd)
                | 5, ho => (obtain rfl := Option.some.inj ho; cases hd)
                | 6, ho => (obtain rfl := Option.some.inj ho; cases hd)
                | 7, ho => (obtain rfl := Option.some.inj ho; cases hd)
                | 8, ho => (obtain rfl := Option.some.inj ho; cases hd)
                | 9, ho => (obtain rfl := Option.some.inj ho; cases hd)
                | 10, ho => (obtain rfl := Option.some.inj ho; cases hd)
                | 11, ho => (obtain rfl := Option.some.inj ho; cases hd)
                | 12, ho => (obtain rfl := Option.some.inj ho; cases hd)
                | 13, ho => (obtain rfl := Option.some.inj ho; cases hd)
                | 14, ho => (obtain rfl := Option.some.inj ho; cases hd)
                | 15, ho => (obtain rfl := Option.some.inj ho; cases hd)
                | (_ + 16), _ => trivial
            · intro i o u f W ho hi hB hdep
              have hi' : i = 0 ∨ i = 1 ∨ i = 2 ∨ i = 3 ∨ i = 4 ∨ i = 5 ∨ i = 6 ∨ i = 7 ∨ i = 8 ∨ i = 9 ∨ i = 10 ∨ i = 11 ∨ i = 12 ∨ i = 13 ∨ i = 14 ∨ i = 15 := by
                have : i < 16 := hi
                omega
              rcases hi' with rfl | rfl | rfl | rfl | rfl | rfl | rfl | rfl | rfl | rfl | rfl | rfl | rfl | rfl | rfl | rfl
              · obtain ⟨y0, y1, _⟩ := HXW.out W hB
                refine iv_val ho (by obtain rfl := Option.some.inj ho; rfl) (.agg #[.slice (some ⟨bp, op, none⟩) ps.length pc, .slice aa l.length ac]) W ?_ hB (Below.refl _ _) rfl
                · intro q hq
                  obtain rfl := Option.some.inj ho
                  have e1 := hq.tmp 1
                  simp at e1
                  simp [execOp, e1, go_sem, y0, y1]
              · refine iv_val ho (by obtain rfl := Option.some.inj ho; rfl) (.pointer (some ⟨P, 0, none⟩)) W ?_ hB (Below.refl _ _) rfl
                · intro q hq
                  obtain rfl := Option.some.inj ho
                  have e5 := hq.tmp 5
                  simp at e5
                  simp [execOp, e5, go_sem]
              · have d24 : f 24 = .pointer (some ⟨P, 0, none⟩) := hdep ⟨1, .data⟩ (by obtain rfl := Option.some.inj ho; simp) rfl
                have y0 := (HPQ.out W hB).1
                refine iv_val ho (by obtain rfl := Option.some.inj ho; rfl) (.string a) W ?_ hB (Below.refl _ _) rfl
                · intro q hq
                  obtain rfl := Option.some.inj ho
                  have e24 := hq.tmp 24
                  simp at e24
                  simp [execOp, e24, d24, go_sem, y0]
              · have d23 : f 23 = .agg #[.slice (some ⟨bp, op, none⟩) ps.length pc, .slice aa l.length ac] := hdep ⟨0, .data⟩ (by obtain rfl := Option.some.inj ho; simp) rfl
                have d25 : f 25 = .string a := hdep ⟨2, .data⟩ (by obtain rfl := Option.some.inj ho; simp) rfl
                refine iv_call ho (by obtain rfl := Option.some.inj ho; rfl) 63 #[.tmp 23, .tmp 25] _ (by obtain rfl := Option.some.inj ho; rfl) (enters_of Tryz.func63 (by kernel_rfl) rfl) #[.agg #[.slice (some ⟨bp, op, none⟩) ps.length pc, .slice aa l.length ac], .string a] (by intro q hq; have e23 := hq.tmp 23; simp at e23; have e25 := hq.tmp 25; simp at e25; simp [e23, e25, d23, d25, go_sem]) _ (HRA.out W hB) ?_
                rintro e W' ⟨⟨v', rfl, hr'⟩, hb'⟩
                exact ⟨_, rfl, Below.trans hB (hb'.mono hB.size), hb', OwnR.base hr' hB.size⟩
              · refine iv_val ho (by obtain rfl := Option.some.inj ho; rfl) (.pointer (some ⟨Q, 0, none⟩)) W ?_ hB (Below.refl _ _) rfl
                · intro q hq
                  obtain rfl := Option.some.inj ho
                  have e8 := hq.tmp 8
                  simp at e8
                  simp [execOp, e8, go_sem]
              · have d27 : f 27 = .pointer (some ⟨Q, 0, none⟩) := hdep ⟨4, .data⟩ (by obtain rfl := Option.some.inj ho; simp) rfl
                have y0 := (HPQ.out W hB).2
                refine iv_val ho (by obtain rfl := Option.some.inj ho; rfl) (.string b) W ?_ hB (Below.refl _ _) rfl
                · intro q hq
                  obtain rfl := Option.some.inj ho
                  have e27 := hq.tmp 27
                  simp at e27
                  simp [execOp, e27, d27, go_sem, y0]
              · have l26 : VOw TS wy.heap.size ((reachB ps l (bsOf a)).map baOf) (f 26) W := hdep ⟨3, .data⟩ (by obtain rfl := Option.some.inj ho; simp) rfl
                have d28 : f 28 = .string b := hdep ⟨5, .data⟩ (by obtain rfl := Option.some.inj ho; simp) rfl
                refine iv_call ho (by obtain rfl := Option.some.inj ho; rfl) 64 #[.tmp 26, .tmp 28] _ (by obtain rfl := Option.some.inj ho; rfl) (enters_of Tryz.func64 (by kernel_rfl) rfl) #[f 26, .string b] (by intro q hq; have e26 := hq.tmp 26; simp at e26; have e28 := hq.tmp 28; simp at e28; simp [e26, e28, d28, go_sem]) _ (HCA.out W (f 26) l26) ?_
                rintro e W' ⟨rfl, rfl⟩
                exact ⟨_, rfl, hB, Below.refl _ _, rfl⟩
              · have d29 : f 29 = .bool false := hdep ⟨6, .data⟩ (by obtain rfl := Option.some.inj ho; simp) rfl
                refine iv_val ho (by obtain rfl := Option.some.inj ho; rfl) (.bool false) W ?_ hB (Below.refl _ _) rfl
                · intro q hq
                  obtain rfl := Option.some.inj ho
                  have e29 := hq.tmp 29
                  simp at e29
                  simp [execOp, e29, d29, go_sem]
              · have dg : f 30 = .bool false := hdep ⟨7, .guard⟩ (by obtain rfl := Option.some.inj ho; simp) rfl
                have ho2 := Option.some.inj ho
                have hg0 : o.guard = some (7, true) := by obtain rfl := ho2; rfl
                generalize hops : (#[_, _, _, _, _, _, _, _, _, _, _, _, _, _, _, _] : Array Oper) = opsX at ho ⊢
                have hd0 : (opsX[7]?).bind (·.dst) = some 30 := by rw [← hops]; rfl
                refine iv_no ho ?_ hB (Below.refl _ _) trivial
                exact wanted_of (j := 7) (d := 30) (b := true) (c := false) hg0 hd0 rfl (by simp) dg
              · have dg : f 30 = .bool false := hdep ⟨7, .guard⟩ (by obtain rfl := Option.some.inj ho; simp) rfl
                have ho2 := Option.some.inj ho
                have hg0 : o.guard = some (7, true) := by obtain rfl := ho2; rfl
                generalize hops : (#[_, _, _, _, _, _, _, _, _, _, _, _, _, _, _, _] : Array Oper) = opsX at ho ⊢
                have hd0 : (opsX[7]?).bind (·.dst) = some 30 := by rw [← hops]; rfl
                refine iv_no ho ?_ hB (Below.refl _ _) trivial
                exact wanted_of (j := 7) (d := 30) (b := true) (c := false) hg0 hd0 rfl (by simp) dg
              · have dg : f 30 = .bool false := hdep ⟨7, .guard⟩ (by obtain rfl := Option.some.inj ho; simp) rfl
                have ho2 := Option.some.inj ho
                have hg0 : o.guard = some (7, true) := by obtain rfl := ho2; rfl
                generalize hops : (#[_, _, _, _, _, _, _, _, _, _, _, _, _, _, _, _] : Array Oper) = opsX at ho ⊢
                have hd0 : (opsX[7]?).bind (·.dst) = some 30 := by rw [← hops]; rfl
                refine iv_no ho ?_ hB (Below.refl _ _) trivial
                exact wanted_of (j := 7) (d := 30) (b := true) (c := false) hg0 hd0 rfl (by simp) dg
              · have dg : f 30 = .bool false := hdep ⟨7, .guard⟩ (by obtain rfl := Option.some.inj ho; simp) rfl
                have ho2 := Option.some.inj ho
                have hg0 : o.guard = some (7, true) := by obtain rfl := ho2; rfl
                generalize hops : (#[_, _, _, _, _, _, _, _, _, _, _, _, _, _, _, _] : Array Oper) = opsX at ho ⊢
                have hd0 : (opsX[7]?).bind (·.dst) = some 30 := by rw [← hops]; rfl
                refine iv_no ho ?_ hB (Below.refl _ _) trivial
                exact wanted_of (j := 7) (d := 30) (b := true) (c := false) hg0 hd0 rfl (by simp) dg
              · have dg : f 30 = .bool false := hdep ⟨7, .guard⟩ (by obtain rfl := Option.some.inj ho; simp) rfl
                have ho2 := Option.some.inj ho
                have hg0 : o.guard = some (7, true) := by obtain rfl := ho2; rfl
                generalize hops : (#[_, _, _, _, _, _, _, _, _, _, _, _, _, _, _, _] : Array Oper) = opsX at ho ⊢
                have hd0 : (opsX[7]?).bind (·.dst) = some 30 := by rw [← hops]; rfl
                refine iv_no ho ?_ hB (Below.refl _ _) trivial
                exact wanted_of (j := 7) (d := 30) (b := true) (c := false) hg0 hd0 rfl (by simp) dg
              · have dg : f 30 = .bool false := hdep ⟨7, .guard⟩ (by obtain rfl := Option.some.inj ho; simp) rfl
                have ho2 := Option.some.inj ho
                have hg0 : o.guard = some (7, true) := by obtain rfl := ho2; rfl
                generalize hops : (#[_, _, _, _, _, _, _, _, _, _, _, _, _, _, _, _] : Array Oper) = opsX at ho ⊢
                have hd0 : (opsX[7]?).bind (·.dst) = some 30 := by rw [← hops]; rfl
                refine iv_no ho ?_ hB (Below.refl _ _) trivial
                exact wanted_of (j := 7) (d := 30) (b := true) (c := false) hg0 hd0 rfl (by simp) dg
              · have dg : f 30 = .bool false := hdep ⟨7, .guard⟩ (by obtain rfl := Option.some.inj ho; simp) rfl
                have ho2 := Option.some.inj ho
                have hg0 : o.guard = some (7, true) := by obtain rfl := ho2; rfl
                generalize hops : (#[_, _, _, _, _, _, _, _, _, _, _, _, _, _, _, _] : Array Oper) = opsX at ho ⊢
                have hd0 : (opsX[7]?).bind (·.dst) = some 30 := by rw [← hops]; rfl
                refine iv_no ho ?_ hB (Below.refl _ _) trivial
                exact wanted_of (j := 7) (d := 30) (b := true) (c := false) hg0 hd0 rfl (by simp) dg
              · have d30 : f 30 = .bool false := hdep ⟨7, .data⟩ (by obtain rfl := Option.some.inj ho; simp) rfl
                refine iv_val ho (by obtain rfl := Option.some.inj ho; rfl) (.bool false) W ?_ hB (Below.refl _ _) rfl
                · intro q hq
                  obtain rfl := Option.some.inj ho
                  have e30 := hq.tmp 30
                  have e37 := hq.tmp 37
                  simp at e30 e37
                  simp [execOp, hq.const, e30, e37, d30, go_sem]
            intro f0 wz hbz hV
            have hf38 : f0 38 = .bool false := show VE _ (f0 38) wz from hV 15 (by decide)
            clear hV
            unfold putsA
            simp only [List.mapIdx_toArray, List.mapIdx_cons, List.mapIdx_nil, List.contains_cons]
            simp
            rw [hf38]
            have HBZ := Lib.hid (Bl.trans HBY.out hbz)
            have HCZ := Lib.hid (HC.out.below (Bl.trans hby' hbz))
            have hQz := (HPQ.out wz hbz).2
            have lQz := HLQ.out wz hbz
            clear hbz hf38 hby'
            go_wp2
            go_roundw
            case rel => exact ⟨j + 1, cur, by omega, by go_num, HCZ, HCN2, HBZ⟩
            case measure => simp [intOf]; omega
          · go_wp2
            rw [← HRY.out.2, ← HRY.out.1]
            clear cc0 cc1 cc2 cc3
            refine wp_region_inv (by kernel_rfl) [23, 24, 25, 26, 27, 28, 29, 30, 31, 32, 33, 34, 35, 36, 37, 38] (fun _ W => Below wy.heap.size wy W) (fun W W' => Below W.heap.size W W') (fun i => [VE (.agg #[.slice (some ⟨bp, op, none⟩) ps.length pc, .slice aa l.length ac]), VE (.pointer (some ⟨P, 0, none⟩)), VE (.string a), VOw TS wy.heap.size ((reachB ps l (bsOf a)).map baOf), VE (.pointer (some ⟨Q, 0, none⟩)), VE (.string b), VE (.bool true), VE (.bool true), VE (.agg #[.slice (some ⟨bp, op, none⟩) ps.length pc, .slice aa l.length ac]), VE (.pointer (some ⟨Q, 0, none⟩)), VE (.string b), VOw TS wy.heap.size ((reachB ps l (bsOf b)).map baOf), VE (.pointer (some ⟨P, 0, none⟩)), VE (.string a), VE (.bool c2), VE (.bool c2)].getD i VT) (by kernel_rfl) (by kernel_rfl) (fun u u' W hu h => h) (Below.drew (Below.refl _ _)) ?_ ?_ ?_ ?_
            · intro u W W' i v hB hR hV
              exact match i, hV with
                | 0, h => h
                | 1, h => h
                | 2, h => h
                | 3, h => VOw.low h hR
                | 4, h => h
                | 5, h => h
                | 6, h => h
                | 7, h => h
                | 8, h => h
                | 9, h => h
                | 10, h => h
                | 11, h => VOw.low h hR
                | 12, h => h
                | 13, h => h
                | 14, h => h
                | 15, h => h
                | (_ + 16), _ => trivial
            · intro i o v W ho hd
              match i, ho with
                | 0, ho => (obtain rfl := Option.some.inj ho; cases hd)
                | 1, ho => (obtain rfl := Option.some.inj ho; cases hd)
                | 2, ho => (obtain rfl := Option.some.inj ho; cases hd)
                | 3, ho => (obtain rfl := Option.some.inj ho; cases hd)
                | 4, ho => (obtain rfl := Option.some.inj ho; cases hd)
                | 5, ho => (obtain rfl := Option.some.inj ho; cases hd)
                | 6, ho => (obtain rfl := Option.some.inj ho; cases hd)
                | 7, ho => (obtain rfl := Option.some.inj ho; cases hd)
                | 8, ho => (obtain rfl := Option.some.inj ho; cases hd)
                | 9, ho => (obtain rfl := Option.some.inj ho; cases hd)
                | 10, ho => (obtain rfl := Option.some.inj ho; cases hd)
                | 11, ho => (obtain rfl := Option.some.inj ho; cases hd)
                | 12, ho => (obtain rfl := Option.some.inj ho; cases hd)
                | 13, ho => (obtain rfl := Option.some.inj ho; cases hd)
                | 14, ho => (obtain rfl := Option.some.inj ho; cases hd)
                | 15, ho => (obtain rfl := Option.some.inj ho; cases hd)
                | (_ + 16), _ => trivial
            · intro i o u f W ho hi hB hdep
              have hi' : i = 0 ∨ i = 1 ∨ i = 2 ∨ i = 3 ∨ i = 4 ∨ i = 5 ∨ i = 6 ∨ i = 7 ∨ i = 8 ∨ i = 9 ∨ i = 10 ∨ i = 11 ∨ i = 12 ∨ i = 13 ∨ i = 14 ∨ i = 15 := by
                have : i < 16 := hi
                omega
              rcases hi' with rfl | rfl | rfl | rfl | rfl | rfl | rfl | rfl | rfl | rfl | rfl | rfl | rfl | rfl | rfl | rfl
              · obtain ⟨y0, y1, _⟩ := HXW.out W hB
                refine iv_val ho (by obtain rfl := Option.some.inj ho; rfl) (.agg #[.slice (some ⟨bp, op, none⟩) ps.length pc, .slice aa l.length ac]) W ?_ hB (Below.refl _ _) rfl
                · intro q hq
                  obtain rfl := Option.some.inj ho
                  have e1 := hq.tmp 1
                  simp at e1
                  simp [execOp, e1, go_sem, y0, y1]
              · refine iv_val ho (by obtain rfl := Option.some.inj ho; rfl) (.pointer (some ⟨P, 0, none⟩)) W ?_ hB (Below.refl _ _) rfl
                · intro q hq
                  obtain rfl := Option.some.inj ho
                  have e5 := hq.tmp 5
                  simp at e5
                  simp [execOp, e5, go_sem]
              · have d24 : f 24 = .pointer (some ⟨P, 0, none⟩) := hdep ⟨1, .data⟩ (by obtain rfl := Option.some.inj ho; simp) rfl
                have y0 := (HPQ.out W hB).1
                refine iv_val ho (by obtain rfl := Option.some.inj ho; rfl) (.string a) W ?_ hB (Below.refl _ _) rfl
                · intro q hq
                  obtain rfl := Option.some.inj ho
                  have e24 := hq.tmp 24
                  simp at e24
                  simp [execOp, e24, d24, go_sem, y0]
              · have d23 : f 23 = .agg #[.slice (some ⟨bp, op, none⟩) ps.length pc, .slice aa l.length ac] := hdep ⟨0, .data⟩ (by obtain rfl := Option.some.inj ho; simp) rfl
                have d25 : f 25 = .string a := hdep ⟨2, .data⟩ (by obtain rfl := Option.some.inj ho; simp) rfl
                refine iv_call ho (by obtain rfl := Option.some.inj ho; rfl) 63 #[.tmp 23, .tmp 25] _ (by obtain rfl := Option.some.inj ho; rfl) (enters_of Tryz.func63 (by kernel_rfl) rfl) #[.agg #[.slice (some ⟨bp, op, none⟩) ps.length pc, .slice aa l.length ac], .string a] (by intro q hq; have e23 := hq.tmp 23; simp at e23; have e25 := hq.tmp 25; simp at e25; simp [e23, e25, d23, d25, go_sem]) _ (HRA.out W hB) ?_
                rintro e W' ⟨⟨v', rfl, hr'⟩, hb'⟩
                exact ⟨_, rfl, Below.trans hB (hb'.mono hB.size), hb', OwnR.base hr' hB.size⟩
              · refine iv_val ho (by obtain rfl := Option.some.inj ho; rfl) (.pointer (some ⟨Q, 0, none⟩)) W ?_ hB (Below.refl _ _) rfl
                · intro q hq
                  obtain rfl := Option.some.inj ho
                  have e8 := hq.tmp 8
                  simp at e8
                  simp [execOp, e8, go_sem]
              · have d27 : f 27 = .pointer (some ⟨Q, 0, none⟩) := hdep ⟨4, .data⟩ (by obtain rfl := Option.some.inj ho; simp) rfl
                have y0 := (HPQ.out W hB).2
                refine iv_val ho (by obtain rfl := Option.some.inj ho; rfl) (.string b) W ?_ hB (Below.refl _ _) rfl
                · intro q hq
                  obtain rfl := Option.some.inj ho
                  have e27 := hq.tmp 27
                  simp at e27
                  simp [execOp, e27, d27, go_sem, y0]
              · have l26 : VOw TS wy.heap.size ((reachB ps l (bsOf a)).map baOf) (f 26) W := hdep ⟨3, .data⟩ (by obtain rfl := Option.some.inj ho; simp) rfl
                have d28 : f 28 = .string b := hdep ⟨5, .data⟩ (by obtain rfl := Option.some.inj ho; simp) rfl
                refine iv_call ho (by obtain rfl := Option.some.inj ho; rfl) 64 #[.tmp 26, .tmp 28] _ (by obtain rfl := Option.some.inj ho; rfl) (enters_of Tryz.func64 (by kernel_rfl) rfl) #[f 26, .string b] (by intro q hq; have e26 := hq.tmp 26; simp at e26; have e28 := hq.tmp 28; simp at e28; simp [e26, e28, d28, go_sem]) _ (HCA.out W (f 26) l26) ?_
                rintro e W' ⟨rfl, rfl⟩
                exact ⟨_, rfl, hB, Below.refl _ _, rfl⟩
              · have d29 : f 29 = .bool true := hdep ⟨6, .data⟩ (by obtain rfl := Option.some.inj ho; simp) rfl
                refine iv_val ho (by obtain rfl := Option.some.inj ho; rfl) (.bool true) W ?_ hB (Below.refl _ _) rfl
                · intro q hq
                  obtain rfl := Option.some.inj ho
                  have e29 := hq.tmp 29
                  simp at e29
                  simp [execOp, e29, d29, go_sem]
              · have dg : f 30 = .bool true := hdep ⟨7, .guard⟩ (by obtain rfl := Option.some.inj ho; simp) rfl
                have ho2 := Option.some.inj ho
                have hg0 : o.guard = some (7, true) := by obtain rfl := ho2; rfl
                generalize hops : (#[_, _, _, _, _, _, _, _, _, _, _, _, _, _, _, _] : Array Oper) = opsX at ho ⊢
                have hd0 : (opsX[7]?).bind (·.dst) = some 30 := by rw [← hops]; rfl
                obtain ⟨y0, y1, _⟩ := HXW.out W hB
                refine ivw_val ho ?_ (.agg #[.slice (some ⟨bp, op, none⟩) ps.length pc, .slice aa l.length ac]) W ?_ hB (Below.refl _ _) rfl
                · exact wanted_of (j := 7) (d := 30) (b := true) (c := true) hg0 hd0 rfl (by simp) dg
                · intro q hq
                  obtain rfl := ho2
                  have e1 := hq.tmp 1
                  simp at e1
                  simp [execOp, e1, go_sem, y0, y1]
              · have dg : f 30 = .bool true := hdep ⟨7, .guard⟩ (by obtain rfl := Option.some.inj ho; simp) rfl
                have ho2 := Option.some.inj ho
                have hg0 : o.guard = some (7, true) := by obtain rfl := ho2; rfl
                generalize hops : (#[_, _, _, _, _, _, _, _, _, _, _, _, _, _, _, _] : Array Oper) = opsX at ho ⊢
                have hd0 : (opsX[7]?).bind (·.dst) = some 30 := by rw [← hops]; rfl
                refine ivw_val ho ?_ (.pointer (some ⟨Q, 0, none⟩)) W ?_ hB (Below.refl _ _) rfl
                · exact wanted_of (j := 7) (d := 30) (b := true) (c := true) hg0 hd0 rfl (by simp) dg
                · intro q hq
                  obtain rfl := ho2
                  have e8 := hq.tmp 8
                  simp at e8
                  simp [execOp, e8, go_sem]
              · have dg : f 30 = .bool true := hdep ⟨7, .guard⟩ (by obtain rfl := Option.some.inj ho; simp) rfl
                have d32 : f 32 = .pointer (some ⟨Q, 0, none⟩) := hdep ⟨9, .data⟩ (by obtain rfl := Option.some.inj ho; simp) rfl
                have ho2 := Option.some.inj ho
                have hg0 : o.guard = some (7, true) := by obtain rfl := ho2; rfl
                generalize hops : (#[_, _, _, _, _, _, _, _, _, _, _, _, _, _, _, _] : Array Oper) = opsX at ho ⊢
                have hd0 : (opsX[7]?).bind (·.dst) = some 30 := by rw [← hops]; rfl
                have y0 := (HPQ.out W hB).2
                refine ivw_val ho ?_ (.string b) W ?_ hB (Below.refl _ _) rfl
                · exact wanted_of (j := 7) (d := 30) (b := true) (c := true) hg0 hd0 rfl (by simp) dg
                · intro q hq
                  obtain rfl := ho2
                  have e32 := hq.tmp 32
                  simp at e32
                  simp [execOp, e32, d32, go_sem, y0]
              · have dg : f 30 = .bool true := hdep ⟨7, .guard⟩ (by obtain rfl := Option.some.inj ho; simp) rfl
                have d31 : f 31 = .agg #[.slice (some ⟨bp, op, none⟩) ps.length pc, .slice aa l.length ac] := hdep ⟨8, .data⟩ (by obtain rfl := Option.some.inj ho; simp) rfl
                have d33 : f 33 = .string b := hdep ⟨10, .data⟩ (by obtain rfl := Option.some.inj ho; simp) rfl
                have ho2 := Option.some.inj ho
                have hg0 : o.guard = some (7, true) := by obtain rfl := ho2; rfl
                generalize hops : (#[_, _, _, _, _, _, _, _, _, _, _, _, _, _, _, _] : Array Oper) = opsX at ho ⊢
                have hd0 : (opsX[7]?).bind (·.dst) = some 30 := by rw [← hops]; rfl
                refine ivw_call ho ?_ 63 #[.tmp 31, .tmp 33] _ (by obtain rfl := ho2; rfl) (enters_of Tryz.func63 (by kernel_rfl) rfl) #[.agg #[.slice (some ⟨bp, op, none⟩) ps.length pc, .slice aa l.length ac], .string b] (by intro q hq; have e31 := hq.tmp 31; simp at e31; have e33 := hq.tmp 33; simp at e33; simp [e31, e33, d31, d33, go_sem]) _ (HRB.out W hB) ?_
                · exact wanted_of (j := 7) (d := 30) (b := true) (c := true) hg0 hd0 rfl (by simp) dg
                rintro e W' ⟨⟨v', rfl, hr'⟩, hb'⟩
                exact ⟨_, rfl, Below.trans hB (hb'.mono hB.size), hb', OwnR.base hr' hB.size⟩
              · have dg : f 30 = .bool true := hdep ⟨7, .guard⟩ (by obtain rfl := Option.some.inj ho; simp) rfl
                have ho2 := Option.some.inj ho
                have hg0 : o.guard = some (7, true) := by obtain rfl := ho2; rfl
                generalize hops : (#[_, _, _, _, _, _, _, _, _, _, _, _, _, _, _, _] : Array Oper) = opsX at ho ⊢
                have hd0 : (opsX[7]?).bind (·.dst) = some 30 := by rw [← hops]; rfl
                refine ivw_val ho ?_ (.pointer (some ⟨P, 0, none⟩)) W ?_ hB (Below.refl _ _) rfl
                · exact wanted_of (j := 7) (d := 30) (b := true) (c := true) hg0 hd0 rfl (by simp) dg
                · intro q hq
                  obtain rfl := ho2
                  have e5 := hq.tmp 5
                  simp at e5
                  simp [execOp, e5, go_sem]
              · have dg : f 30 = .bool true := hdep ⟨7, .guard⟩ (by obtain rfl := Option.some.inj ho; simp) rfl
                have d35 : f 35 = .pointer (some ⟨P, 0, none⟩) := hdep ⟨12, .data⟩ (by obtain rfl := Option.some.inj ho; simp) rfl
                have ho2 := Option.some.inj ho
                have hg0 : o.guard = some (7, true) := by obtain rfl := ho2; rfl
                generalize hops : (#[_, _, _, _, _, _, _, _, _, _, _, _, _, _, _, _] : Array Oper) = opsX at ho ⊢
                have hd0 : (opsX[7]?).bind (·.dst) = some 30 := by rw [← hops]; rfl
                have y0 := (HPQ.out W hB).1
                refine ivw_val ho ?_ (.string a) W ?_ hB (Below.refl _ _) rfl
                · exact wanted_of (j := 7) (d := 30) (b := true) (c := true) hg0 hd0 rfl (by simp) dg
                · intro q hq
                  obtain rfl := ho2
                  have e35 := hq.tmp 35
                  simp at e35
                  simp [execOp, e35, d35, go_sem, y0]
              · have dg : f 30 = .bool true := hdep ⟨7, .guard⟩ (by obtain rfl := Option.some.inj ho; simp) rfl
                have l34 : VOw TS wy.heap.size ((reachB ps l (bsOf b)).map baOf) (f 34) W := hdep ⟨11, .data⟩ (by obtain rfl := Option.some.inj ho; simp) rfl
                have d36 : f 36 = .string a := hdep ⟨13, .data⟩ (by obtain rfl := Option.some.inj ho; simp) rfl
                have ho2 := Option.some.inj ho
                have hg0 : o.guard = some (7, true) := by obtain rfl := ho2; rfl
                generalize hops : (#[_, _, _, _, _, _, _, _, _, _, _, _, _, _, _, _] : Array Oper) = opsX at ho ⊢
                have hd0 : (opsX[7]?).bind (·.dst) = some 30 := by rw [← hops]; rfl
                refine ivw_call ho ?_ 64 #[.tmp 34, .tmp 36] _ (by obtain rfl := ho2; rfl) (enters_of Tryz.func64 (by kernel_rfl) rfl) #[f 34, .string a] (by intro q hq; have e34 := hq.tmp 34; simp at e34; have e36 := hq.tmp 36; simp at e36; simp [e34, e36, d36, go_sem]) _ (HCB.out W (f 34) l34) ?_
                · exact wanted_of (j := 7) (d := 30) (b := true) (c := true) hg0 hd0 rfl (by simp) dg
                rintro e W' ⟨rfl, rfl⟩
                exact ⟨_, rfl, hB, Below.refl _ _, rfl⟩
              · have d30 : f 30 = .bool true := hdep ⟨7, .data⟩ (by obtain rfl := Option.some.inj ho; simp) rfl
                have d37 : f 37 = .bool c2 := hdep ⟨14, .data⟩ (by obtain rfl := Option.some.inj ho; simp) rfl
                refine iv_val ho (by obtain rfl := Option.some.inj ho; rfl) (.bool c2) W ?_ hB (Below.refl _ _) rfl
                · intro q hq
                  obtain rfl := Option.some.inj ho
                  have e30 := hq.tmp 30
                  have e37 := hq.tmp 37
                  simp at e30 e37
                  simp [execOp, hq.const, e30, e37, d30, d37, go_sem]
            intro f0 wz hbz hV
            have hf38 : f0 38 = .bool c2 := show VE _ (f0 38) wz from hV 15 (by decide)
            clear hV
            unfold putsA
            simp only [List.mapIdx_toArray, List.mapIdx_cons, List.mapIdx_nil, List.contains_cons]
            simp
            rw [hf38]
            have HBZ := Lib.hid (Bl.trans HBY.out hbz)
            have HCZ := Lib.hid (HC.out.below (Bl.trans hby' hbz))
            have hQz := (HPQ.out wz hbz).2
            have lQz := HLQ.out wz hbz
            clear hbz hf38 hby'
            cases c2
            · have HCN2 : Hid (cur = ((keysP ps).take (j + 1)).filter (mutB ps l (bsOf a))) := Lib.hid (by rw [HCN.out]; simp)
              go_wp2
              go_roundw
              case rel => exact ⟨j + 1, cur, by omega, by go_num, HCZ, HCN2, HBZ⟩
              case measure => simp [intOf]; omega
            · have HCN2 : Hid (cur ++ [bsOf b] = ((keysP ps).take (j + 1)).filter (mutB ps l (bsOf a))) := Lib.hid (by rw [HCN.out]; simp)
              have hzz : wx.heap.size ≤ wz.heap.size := HBZ.out.size
              go_wp2_with (at_builtin; refine wp_app_r TS.ok rfl _ _ rfl wx.heap.size _ (cur.map baOf) rfl (HCZ.out.alloc _) wz.heap.size 1 b rfl (blk_new wz _) rfl (by rw [List.length_map]; omega) (by simp; omega) ?_)
              intro v5 w5 hO5 hg5 _
              rw [show cur.map baOf ++ [b] = (cur ++ [bsOf b]).map baOf from by rw [List.map_append]; simp [baE_bsOf]] at hO5
              have HO5 := Lib.hid hO5
              have HB5 : Hid (Below wx.heap.size wx w5) := Lib.hid (Below.trans (Bl.alloc HBZ.out _) (app_belowR (HCZ.out.alloc _) hg5 (by simp; omega)))
              clear hO5 hg5 hQz lQz
              go_wp2
              go_roundw
              case rel => exact ⟨j + 1, _, by omega, by go_num, HO5, HCN2, HB5⟩
              case measure => simp [intOf]; omega
        · obtain rfl : j = ps.length := by omega
          have HCF : Hid (cur = grpB ps l (bsOf a)) := Lib.hid (by
            have h1 : (keysP ps).take ps.length = keysP ps := by rw [← keysP_len ps, List.take_length]
            rw [HCE.out, h1]; rfl)
          have HBW := Lib.hid (Bl.trans HBX.out HBI.out)
          have HGW := Lib.hid (HGX.out.low HBI.out)
          obtain ⟨ga, gc, hgv, _, _⟩ := HC.out.form
          obtain ⟨gn, hgn⟩ : ∃ gn, gn = cur.length := ⟨_, rfl⟩
          rw [List.length_map, ← hgn] at hgv
          subst hgv
          have HGN := Lib.hid hgn
          obtain ⟨p0, lP⟩ := HXP.out wr HBI.out
          have hkn : (k : Nat) < ps.length := hlt
          by_cases hg1 : 1 < gn
          · have hg1' : (1 : Int) < (gn : Int) := by omega
            have hg0 : 0 < gn := by omega
            obtain ⟨c, hcc⟩ : ∃ c, cur[0]? = some c := ⟨_, List.getElem?_eq_getElem (by omega)⟩
            obtain ⟨gb, go, rfl, _, lgb, zg⟩ := str_at HC.out.rec0 (show (cur.map baOf)[0]? = some (baOf c) by rw [List.getElem?_map, hcc]; rfl)
            replace zg : wr.cell? ⟨gb, go, none⟩ = some (.string (baOf c)) := zg
            have HHD : Hid (cur.head? = some c) := Lib.hid (by rw [List.head?_eq_getElem?]; exact hcc)
            clear hgn hcc
            by_cases hca : baOf c = a
            · have HF : Hid (firstB (grpB ps l) (bsOf a) = true) := Lib.hid (by
                unfold firstB
                rw [← HCF.out, HHD.out, ← HGN.out, decide_eq_true hg1, decide_eq_true (show some c = some (bsOf a) by rw [← hca, bsOf_baOf])]
                rfl)
              have HEN : Hid (G ++ [cur] = grsB ps l ((keysP ps).take (k + 1))) := Lib.hid (by rw [HT.out, grsB_snoc, if_pos HF.out, ← HCF.out, HE.out])
              have HLN : Hid (hs.length ≤ 1000000) := Lib.hid (by have h1 := HG.out.len; have := HGL.out; omega)
              have HLG : Hid ((G ++ [cur]).length ≤ k + 1) := Lib.hid (by rw [List.length_append]; have := HGL.out; simp; omega)
              obtain ⟨hd, hhd⟩ := hdr_ofR HC.out
              have HHD2 := Lib.hid hhd
              have hzw : w1.heap.size ≤ wr.heap.size := HBW.out.size
              have hzx : w1.heap.size ≤ wx.heap.size := HBX.out.size
              subst hca
              clear hg1 hhd
              go_wp2
              go_quiet (fail)
              rename_i nq
              go_wp2_with (at_builtin; refine wp_app_r THs.ok rfl _ _ rfl w1.heap.size _ hs rfl ((HGW.out.low (Bl.drewN (Below.refl _ _) nq)).own.alloc _) wr.heap.size 1 hd rfl (blk_new (wr.drewN nq) _) (by rw [HHD2.out]; rfl) HLN.out (by simp; omega) ?_)
              intro v9 wT hO9 hg9 _
              have hGA := (HGW.out.low (Bl.drewN (Below.refl wr.heap.size wr) nq)).low (Bl.alloc (Below.refl (wr.drewN nq).heap.size (wr.drewN nq)) (.cells #[.slice (some ⟨gb, go, none⟩) gn gc] 36))
              have HGT : Hid (OwnG wT w1.heap.size v9 (hs ++ [hd]) (G ++ [cur])) := Lib.hid (hGA.snoc hg9 hO9 (by rw [← HHD2.out]; exact ((HC.out.below (Bl.drewN (Below.refl _ _) nq)).alloc _).base hzx))
              have HBT : Hid (Below w1.heap.size w1 wT) := Lib.hid (Below.trans (Bl.alloc (Bl.drewN HBW.out nq) _) (app_belowR hGA.own hg9 (by simp; omega)))
              clear hO9 hg9 hGA zg p0
              go_wp2
              go_roundw
              case rel => exact ⟨k + 1, _, _, by omega, by go_num, HGT, HEN, HLG, HBT⟩
              case measure => simp [intOf]; omega
            · have hne : ((baOf c).toList == a.toList) = false := by
                rw [beq_eq_false_iff_ne]
                exact fun e => hca (ba_inj e)
              have HF : Hid (¬ firstB (grpB ps l) (bsOf a) = true) := Lib.hid (by
                unfold firstB
                rw [← HCF.out, HHD.out, decide_eq_false (show ¬ some c = some (bsOf a) from fun e => hca (by injection e with e; rw [e, baE_bsOf]))]
                simp)
              have HEN : Hid (G = grsB ps l ((keysP ps).take (k + 1))) := Lib.hid (by rw [HT.out, grsB_snoc, if_neg HF.out, List.append_nil]; exact HE.out)
              have HLG : Hid (G.length ≤ k + 1) := Lib.hid (by have := HGL.out; omega)
              clear hg1 hca
              go_wp2
              go_quiet (fail)
              go_wp2
              go_roundw
              case rel => exact ⟨k + 1, hs, G, by omega, by go_num, Lib.hid (HGW.out.low (Bl.drewN (Below.refl _ _) _)), HEN, HLG, Lib.hid (Bl.drewN HBW.out _)⟩
              case measure => simp [intOf]; omega
          · have hg1' : ¬ (1 : Int) < (gn : Int) := by omega
            have hdg : decide ((1 : Int) < (gn : Int)) = false := decide_eq_false hg1'
            have HF : Hid (¬ firstB (grpB ps l) (bsOf a) = true) := Lib.hid (by
              unfold firstB
              rw [← HCF.out, ← HGN.out, decide_eq_false hg1]
              simp)
            have HEN : Hid (G = grsB ps l ((keysP ps).take (k + 1))) := Lib.hid (by rw [HT.out, grsB_snoc, if_neg HF.out, List.append_nil]; exact HE.out)
            have HLG : Hid (G.length ≤ k + 1) := Lib.hid (by have := HGL.out; omega)
            clear hgn
            go_wp2
            go_quiet (fail)
            go_wp2
            go_roundw
            case rel => exact ⟨k + 1, hs, G, by omega, by go_num, Lib.hid (HGW.out.low (Bl.drewN (Below.refl _ _) _)), HEN, HLG, Lib.hid (Bl.drewN HBW.out _)⟩
            case measure => simp [intOf]; omega
    · obtain rfl : k = ps.length := by omega
      have HEE : Hid (G = grsB ps l (keysP ps)) := Lib.hid (by
        have h1 : (keysP ps).take ps.length = keysP ps := by rw [← keysP_len ps, List.take_length]
        rw [HE.out, h1])
      have HGE := Lib.hid (show OwnG wr w.heap.size _ hs (grsB ps l (keysP ps)) from by have := HG.out.base HB1.out.size; rw [HEE.out] at this; exact this)
      have HBE := Lib.hid (Bl.trans HB1.out HB.out)
      go_wp2
      go_ret
      exact ⟨⟨_, _, rfl, HGE.out⟩, HBE.out⟩
end Go.Proofs.YteojmljggoplkaaGreatDoor
