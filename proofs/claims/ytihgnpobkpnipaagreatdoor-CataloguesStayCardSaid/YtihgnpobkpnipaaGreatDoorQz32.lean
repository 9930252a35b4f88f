/- Texts of the proof of a law, put together, part 32 of 41. Conditions: none beyond those that each theorem names. -/
import Derived.Test.YtihgnpobkpnipaaGreatDoorQz6
import Derived.Test.YtihgnpobkpnipaaGreatDoorQz19
import Derived.Test.YtihgnpobkpnipaaGreatDoorQz21
namespace Go.Proofs.YtihgnpobkpnipaaGreatDoor
open Go.RowKit Go.Sort Go.Maps
/-- rows as told by ways. -/
structure WayRows (F : Fds) (done : List (Bs × Bs)) : Prop where
  row : ∀ k, rowB F k = (ofW done k).map baOf
  len : F.length ≤ done.length
  ne : ∀ p ∈ F, p.2.2 ≠ []
theorem ofW_snoc (l : List (Bs × Bs)) (x : Bs × Bs) (p : Bs) : ofW (l ++ [x]) p = ofW l p ++ if x.1 = p then [x.2] else [] := by
  unfold ofW
  rw [List.filter_append, List.map_append]
  congr 1
  by_cases h : x.1 = p
  · rw [if_pos h]; simp [h]
  · rw [if_neg h]; simp [h]
theorem ofW_len (l : List (Bs × Bs)) (p : Bs) : (ofW l p).length ≤ l.length := by
  unfold ofW
  rw [List.length_map]
  exact List.length_filter_le _ _
theorem WayRows.nil : WayRows [] [] := ⟨fun _ => rfl, Nat.le_refl _, fun _ h => (List.not_mem_nil h).elim⟩
theorem WayRows.put {F : Fds} {done : List (Bs × Bs)} (h : WayRows F done) (p : Wy) (hd : Hdr) : WayRows (F.put (bsOf p.1) (hd, rowB F (bsOf p.1) ++ [p.2])) (done ++ [bsW p]) := by
  refine ⟨fun k => ?_, ?_, fun q hq => ?_⟩
  · rw [rowB_put, ofW_snoc]
    by_cases e : k = bsOf p.1
    · subst e
      rw [if_pos rfl, if_pos (show (bsW p).1 = bsOf p.1 from rfl), List.map_append, ← h.row, List.map_singleton]
      unfold bsW
      rw [baOf_bs]
    · rw [if_neg e, if_neg (show ¬ (bsW p).1 = k from Ne.symm e), List.append_nil, h.row]
  · have h1 := Sm.put_le F (bsOf p.1) (hd, rowB F (bsOf p.1) ++ [p.2])
    have h2 := h.len
    rw [List.length_append, List.length_singleton]
    omega
  · rcases (Sm.ins_mem q).1 hq with rfl | hq
    · simp
    · exact h.ne q (List.mem_filter.1 hq).1
theorem WayRows.rowLen {F : Fds} {done : List (Bs × Bs)} (h : WayRows F done) (k : Bs) : (rowB F k).length ≤ done.length := by
  rw [h.row, List.length_map]; exact ofW_len _ _
/-- rows sorted so far: those that are not left. -/
structure SrtRows (F0 F : Fds) (left : Lit → Bool) : Prop where
  row : ∀ k, rowB F k = if left (.string k) = true then rowB F0 k else (((rowB F0 k).map bsOf).mergeSort leB).map baOf
  hd : hdS F = hdS F0
  ne : ∀ p ∈ F, p.2.2 ≠ []
theorem map_ba_bs (l : List ByteArray) : (l.map bsOf).map baOf = l := by
  rw [List.map_map]
  conv => rhs; rw [← List.map_id l]
  exact List.map_congr_left fun b _ => baOf_bs b
theorem map_bs_ba (l : List Bs) : (l.map baOf).map bsOf = l := by
  rw [List.map_map]
  conv => rhs; rw [← List.map_id l]
  exact List.map_congr_left fun b _ => bsOf_baOf b
theorem SrtRows.start {F0 : Fds} {left : Lit → Bool} (hne : ∀ p ∈ F0, p.2.2 ≠ []) (hl : left = fun z => Maps.has (DataW.map (smD TMh (hdS F0))) z) : SrtRows F0 F0 left := by
  subst hl
  refine ⟨fun k => ?_, rfl, hne⟩
  split
  · rfl
  · rename_i h
    rw [smD_has] at h
    have : F0.get k = none := by
      unfold Sm.has at h
      rw [hdS_get] at h
      cases hg : F0.get k with
      | none => rfl
      | some v => rw [hg] at h; exact absurd rfl h
    have hr : rowB F0 k = [] := by unfold rowB; rw [this]; rfl
    rw [hr]
    simp
theorem SrtRows.next {F0 F : Fds} {left : Lit → Bool} (h : SrtRows F0 F left) {x : Bs} {hd : Hdr} {l : List ByteArray} (hl : left (.string x) = true) (hx : F.get x = some (hd, l)) : SrtRows F0 (setRow F x (((l.map bsOf).mergeSort leB).map baOf)) (fun z => left z && !z.sameKey (.string x)) := by
  have hrx : rowB F x = l := by unfold rowB; rw [hx]; rfl
  have hr0 : rowB F0 x = l := by
    have := h.row x
    rw [if_pos hl, hrx] at this
    exact this.symm
  refine ⟨fun k => ?_, by rw [setRow_hd]; exact h.hd, fun p hp => ?_⟩
  · rw [rowB_set _ _ _ _ (has_some hx)]
    by_cases e : k = x
    · subst e
      rw [if_pos rfl, if_neg (by rw [left_step]; exact fun q => q.2 rfl), hr0]
    · rw [if_neg e, h.row]
      by_cases hk : left (.string k) = true
      · rw [if_pos hk, if_pos (left_step.2 ⟨hk, e⟩)]
      · rw [if_neg hk, if_neg fun q => hk (left_step.1 q).1]
  · obtain ⟨q, hq, rfl⟩ := List.mem_map.1 hp
    have hle : l ≠ [] := h.ne _ (Sm.get_mem hx)
    split
    · intro e
      have e' : (((l.map bsOf).mergeSort leB).map baOf) = [] := e
      have h3 := congrArg List.length e'
      simp at h3
      exact hle h3
    · exact h.ne q hq
/-- the map of direct replacements. -/
structure NextM (w : World) (b B : Nat) (l : List Alt) (F : Fds) : Prop where
  by' : ByM w b B F
  row : ∀ k, rowB F k = (nextL l k).map baOf
  ne : ∀ p ∈ F, p.2.2 ≠ []
  len : F.length ≤ 2 * l.length
theorem NextM.low {w w' : World} {b B : Nat} {l : List Alt} {F : Fds} (h : NextM w b B l F) (hb : Below w.heap.size w w') : NextM w' b B l F := ⟨h.by'.low hb, h.row, h.ne, h.len⟩
theorem NextM.byG {w : World} {b B : Nat} {l : List Alt} {F : Fds} (h : NextM w b B l F) : ByG w b (nextL l) := h.by'.byG h.row
theorem NextM.has {w : World} {b B : Nat} {l : List Alt} {F : Fds} (h : NextM w b B l F) (k : Bs) : F.has k = true ↔ nextL l k ≠ [] := by
  have hr := h.row k
  unfold rowB at hr
  constructor
  · intro hh
    obtain ⟨v, hv⟩ : ∃ v, F.get k = some v := Option.isSome_iff_exists.1 hh
    rw [hv] at hr
    intro e
    rw [e] at hr
    exact h.ne _ (Sm.get_mem hv) hr
  · intro hn
    cases hg : F.get k with
    | some v => exact has_some hg
    | none =>
      rw [hg] at hr
      exact absurd (List.map_eq_nil_iff.1 hr.symm) hn
set_option maxHeartbeats 16000000 in
set_option maxRecDepth 100000 in
theorem byPart_any (ps : List Prt) (l : List Alt) (vp va : Value) (w : World) (hl2 : l.length ≤ 100000) (hz2 : AltZ l) (hc : CatR w vp va ps l) :
    Calls Tryz.prog 67 #[.agg #[vp, va]] w fun e w' => (∃ b F, e = .returned (.map (some b)) ∧ w.heap.size ≤ b ∧ NextM w' b w.heap.size l F) ∧ Below w.heap.size w w' := by
  have HRA := Lib.hid fun W (hW : Below w.heap.size w W) => hc.a.below hW
  obtain ⟨pa, pc, rfl, _, _⟩ := hc.p.form
  obtain ⟨aa, ac, rfl, _, _⟩ := hc.a.form
  have hmm := @run_makeMap Tryz.prog
  obtain ⟨w1, hw1⟩ : ∃ w1, w1 = (w.alloc (.cells #[.slice pa ps.length pc, .slice aa l.length ac] 29)).alloc (.map #[] 0) := ⟨_, rfl⟩
  have hA1 : Below w.heap.size w w1 := by rw [hw1]; exact Bl.alloc (Bl.alloc (Below.refl _ _) _) _
  obtain ⟨mb, hmb⟩ : ∃ mb, mb = w.heap.size + 1 := ⟨_, rfl⟩
  have hM1 : ByM w1 mb w.heap.size [] := by
    have := ByM.made (w.alloc (.cells #[.slice pa ps.length pc, .slice aa l.length ac] 29)) w.heap.size
    rw [← hw1] at this
    rw [hmb]
    simpa using this
  have h3 : w1.heap[w.heap.size]? = some (.cells #[.slice pa ps.length pc, .slice aa l.length ac] 29 (0, 0)) := by rw [hw1]; exact blk_old (blk_new w _) _
  have q1 : w1.cell? ⟨w.heap.size, 1, none⟩ = some (.slice aa l.length ac) := blk_cell h3 1
  have HW1 := Lib.hid hw1
  have HA1 := Lib.hid hA1
  have HM1 := Lib.hid hM1
  have HMB : Hid (w.heap.size ≤ mb) := Lib.hid (by omega)
  have HZ2 := Lib.hid hz2
  have HMBE := Lib.hid hmb
  clear hw1 hA1 hc hz2 hM1 h3 hmb
  go_enter Tryz.func67, Tryz.ntmps67
  go_wp2_with fail
  rw [← HW1.out, ← HMBE.out]
  go_loopw [14] (fun i wr => ∃ (k : Nat) (F : Fds), k ≤ l.length ∧ i = .int .i64 k ∧ Hid (WayRows F (waysL (l.take k))) ∧ Hid (ByM wr mb w.heap.size F) ∧ Hid (Below w.heap.size w wr)) (fun i _ => l.length - (intOf i).toNat)
  case atStart => exact ⟨0, [], Nat.zero_le _, rfl, Lib.hid WayRows.nil, HM1, HA1⟩
  case round =>
    obtain ⟨k, F, hk, rfl, HWR, HM, HB⟩ := hrel
    by_cases hlt : k < l.length
    · obtain ⟨x, hx⟩ : ∃ x, l[k]? = some x := ⟨_, List.getElem?_eq_getElem hlt⟩
      have HX := Lib.hid hx
      obtain ⟨b1, o1, rfl, _, hb1, hc1⟩ := (HRA.out wr HB.out).at TAl.ok.len hx TAl.ok.pos
      have HWY := Lib.hid fun W => ways_any x W
      have HZX := Lib.hid (HZ2.out x (List.mem_of_getElem? hx))
      have c0 : wr.cell? ⟨b1, o1 + k * 3, none⟩ = some (.string x.1) := hc1 0 _ rfl
      have c1 : wr.cell? ⟨b1, o1 + k * 3 + 1, none⟩ = some (.string x.2.1) := hc1 1 _ rfl
      have c2 : wr.cell? ⟨b1, o1 + k * 3 + 2, none⟩ = some (.bool x.2.2) := hc1 2 _ rfl
      have hwk : IntKind.i64.wrap ((k : Int) + 1) = ((k + 1 : Nat) : Int) := by rw [IntWalk.i64_in _ (by omega)]; omega
      obtain ⟨wx, hwx⟩ : ∃ wx, wx = wr.alloc (.cells #[.string x.1, .string x.2.1, .bool x.2.2] 72) := ⟨_, rfl⟩
      have hbx : Below wr.heap.size wr wx := by rw [hwx]; exact Bl.alloc (Below.refl _ _) _
      have hX : wx.heap[wr.heap.size]? = some (.cells #[.string x.1, .string x.2.1, .bool x.2.2] 72 (0, 0)) := by rw [hwx]; exact blk_new wr _
      have d0 : wx.cell? ⟨wr.heap.size, 0, none⟩ = some (.string x.1) := blk_cell hX 0
      have d1 : wx.cell? ⟨wr.heap.size, 1, none⟩ = some (.string x.2.1) := blk_cell hX 1
      have d2 : wx.cell? ⟨wr.heap.size, 2, none⟩ = some (.bool x.2.2) := blk_cell hX 2
      have HMX := Lib.hid (HM.out.low hbx)
      have HBX := Lib.hid (Bl.trans HB.out hbx)
      have HWX := Lib.hid hwx
      clear hx hc1 hwx hX hbx hb1
      go_wp2_with fail
      rw [← HWX.out]
      go_wp2_with fail
      refine (HWY.out wx).mono ?_
      rintro e w4 ⟨⟨vw, rfl, hOw⟩, hb4⟩
      obtain ⟨wa, wc, rfl, _, _⟩ := hOw.form
      have HOW4 := Lib.hid (hOw.base (show w.heap.size ≤ wx.heap.size from HBX.out.size))
      have HM4 := Lib.hid (HMX.out.low hb4)
      have HB4 := Lib.hid (Bl.trans HBX.out hb4)
      have hzl := waysZ_len x
      have HZW := Lib.hid (show (waysA x).length = (waysZ x).length by rw [waysZ_eq, List.length_map])
      clear hOw hb4 HWY HMX HBX
      obtain ⟨n, hn⟩ : ∃ n, n = (waysZ x).length := ⟨_, rfl⟩
      rw [← hn] at hzl
      rw [← hn]
      have HN := Lib.hid hn
      clear hn
      go_wp2_with fail
      go_loopw [21] (fun i wr => ∃ (j : Nat) (F : Fds), j ≤ n ∧ i = .int .i64 j ∧ Hid (WayRows F (waysL (l.take k) ++ (waysA x).take j)) ∧ Hid (ByM wr mb w.heap.size F) ∧ Hid (Below w.heap.size w wr) ∧ Hid (OwnR TWy wr w.heap.size (.slice wa n wc) (waysZ x))) (fun i _ => n - (intOf i).toNat)
      case atStart => exact ⟨0, F, Nat.zero_le _, rfl, Lib.hid (by simpa using HWR.out), HM4, HB4, Lib.hid (by rw [HN.out]; exact HOW4.out)⟩
      case round =>
        obtain ⟨j, F, hj, rfl, HWR2, HMD, HBD, HRD⟩ := hrel
        by_cases hlt4 : j < n
        · obtain ⟨p, hp⟩ : ∃ p, (waysZ x)[j]? = some p := ⟨_, List.getElem?_eq_getElem (by have := HN.out; omega)⟩
          have hpa : (waysA x)[j]? = some (bsW p) := by rw [waysZ_eq, List.getElem?_map, hp]; rfl
          have hsh := shortW_of HZX.out _ (List.mem_of_getElem? hpa)
          have hRR := HRD.out.rec0
          rw [HN.out] at hRR
          obtain ⟨b5, o5, rfl, _, hb5, hc5⟩ := hRR.at TWy.ok.len hp TWy.ok.pos
          have HPA : Hid ((waysL (l.take k) ++ (waysA x).take j) ++ [bsW p] = waysL (l.take k) ++ (waysA x).take (j + 1)) := Lib.hid (by rw [List.take_add_one, hpa, List.append_assoc]; rfl)
          have hdl : (waysL (l.take k) ++ (waysA x).take j).length ≤ 400000 := by
            rw [List.length_append]
            have h1 := waysL_len (l.take k)
            rw [List.length_take] at h1
            have h2 : ((waysA x).take j).length ≤ 2 := by
              rw [List.length_take, HZW.out]
              have := waysZ_len x
              omega
            omega
          have hrl := HWR2.out.rowLen (bsOf p.1)
          have hfl := HWR2.out.len
          obtain ⟨pf, pb⟩ := p
          have n0 : wr.cell? ⟨b5, o5 + j * 2, none⟩ = some (.string pf) := hc5 0 _ rfl
          have n1 : wr.cell? ⟨b5, o5 + j * 2 + 1, none⟩ = some (.string pb) := hc5 1 _ rfl
          have hpf : pf.size ≤ maxLen := by have := hsh.1; show pf.data.size ≤ maxLen; rw [← Array.length_toList]; exact this
          have hwj : IntKind.i64.wrap ((j : Int) + 1) = ((j + 1 : Nat) : Int) := by rw [IntWalk.i64_in _ (by omega)]; omega
          obtain ⟨w6, hw6⟩ : ∃ w6, w6 = wr.alloc (.cells #[.string pf, .string pb] 89) := ⟨_, rfl⟩
          have hb6 : Below wr.heap.size wr w6 := by rw [hw6]; exact Bl.alloc (Below.refl _ _) _
          have hx6 : w6.heap[wr.heap.size]? = some (.cells #[.string pf, .string pb] 89 (0, 0)) := by rw [hw6]; exact blk_new wr _
          have HM6 := Lib.hid (HMD.out.low hb6)
          have HB6 := Lib.hid (Bl.trans HBD.out hb6)
          have HX6 := Lib.hid hx6
          have HWY6 := Lib.hid (HRD.out.below hb6)
          have HZ6 : Hid (w.heap.size ≤ w6.heap.size) := Lib.hid HB6.out.size
          obtain ⟨hd, hlk, hOrow, hap⟩ := HM6.out.look pf hpf
          have HLK := Lib.hid hlk
          have HOW := Lib.hid hOrow
          have HAP := Lib.hid hap
          have HLE : Hid ((rowB F (bsOf pf)).length ≤ 1000000) := Lib.hid (by have : (rowB F (bsOf pf)).length ≤ _ := hrl; omega)
          have HFL : Hid (F.length < maxLen) := Lib.hid (by unfold maxLen; omega)
          have HPF := Lib.hid hpf
          have HRD := Lib.hid (show ∀ W : World, W.heap[wr.heap.size]? = some (.cells #[.string pf, .string pb] 89 (0, 0)) → W.cell? ⟨wr.heap.size, 0, none⟩ = some (.string pf) ∧ W.cell? ⟨wr.heap.size, 1, none⟩ = some (.string pb) from fun W hW => ⟨blk_cell hW 0, blk_cell hW 1⟩)
          have HRF : Hid (Below w6.heap.size w6 { w6 with drawn := w6.drawn + 1 }) := Lib.hid (Below.drew (Below.refl _ _))
          have HWN := Lib.hid (fun hd4 => HWR2.out.put (pf, pb) hd4)
          clear hp hpa hc5 hRR hb5 hsh hlk hOrow hap hrl hfl hdl hb6 hx6
          go_wp2_with fail
          rw [← hw6]
          clear hw6 n0 n1
          refine wp_region_app (by kernel_rfl) [25, 26, 27, 28, 29, 30, 31, 32, 33, 34, 35] (fun ii => ([some (.map (some mb)), some (.pointer (some ⟨wr.heap.size, 0, none⟩)), some (.string pf), some (.map (some mb)), some (.pointer (some ⟨wr.heap.size, 0, none⟩)), some (.string pf), some (hdrV hd), some (.pointer (some ⟨wr.heap.size, 1, none⟩)), some (.string pb), none, none, none] : List (Option Value)).getD ii none) 9 10 11 1000 34 35 0
            (fun W => Below w6.heap.size w6 W) (fun W => Hid ((∃ hd4, ByM W mb w.heap.size (F.put (bsOf pf) (hd4, rowB F (bsOf pf) ++ [pb]))) ∧ Below w.heap.size w6 W ∧ OwnR TWy W w.heap.size (.slice (some ⟨b5, o5, none⟩) n wc) (waysZ x) ∧ W.heap[wr.heap.size]? = some (.cells #[.string pf, .string pb] 89 (0, 0))))
            (fun W => W.cell? ⟨wr.heap.size, 0, none⟩ = some (.string pf) ∧ W.cell? ⟨wr.heap.size, 1, none⟩ = some (.string pb))
            (fun v W => ∃ hd4, v = hdrV hd4 ∧ Hid (ByT W mb w.heap.size F (bsOf pf) v (rowB F (bsOf pf) ++ [pb]) ∧ Below w.heap.size w6 W ∧ OwnR TWy W w.heap.size (.slice (some ⟨b5, o5, none⟩) n wc) (waysZ x) ∧ W.heap[wr.heap.size]? = some (.cells #[.string pf, .string pb] 89 (0, 0)))) (fun v W => ∃ g, v = .slice (some ⟨g, 0, none⟩) 1 1 ∧ W.heap[g]? = some (.cells #[.string pb] 9 (0, 0))) (fun _ _ => True)
            (by kernel_rfl) (by kernel_rfl) (by rfl) (by rfl) (by rfl) (by decide) (by decide) ⟨rfl, rfl, fun h => absurd h (by decide)⟩ rfl rfl rfl (fun h => absurd h (by decide))
            (fun l hcl h => hcl.no h 10 ⟨9, .data⟩ rfl rfl (by simp) rfl) (fun l hcl h => hcl.no h 11 ⟨10, .data⟩ rfl rfl (by simp) rfl) (fun h => absurd h (by decide))
            (fun o ho => by obtain rfl := Option.some.inj ho; exact ⟨⟨⟨9, .data⟩, by simp, rfl, rfl⟩, fun h => absurd h (by decide)⟩) (fun o ho => by obtain rfl := Option.some.inj ho; exact ⟨⟨10, .data⟩, by simp, rfl, rfl⟩)
            HRF.out (fun v W W' ⟨g, h1, h2⟩ hb => ⟨g, h1, blk_below h2 hb⟩) (fun _ _ _ _ _ => trivial) (fun W hW => HRD.out W (blk_below HX6.out hW)) (fun v W ⟨hd4, _, h⟩ => HRD.out W h.out.2.2.2) (fun W h => HRD.out W h.out.2.2.2) ?_ ?_ (fun h => absurd h (by decide)) ?_ ?_ ?_
          · intro listed f i o v W ho hc hdep hR hPre hcl hli hV
            obtain ⟨r1, r2⟩ := hR
            match i, ho, hc with
            | 0, ho, hc =>
              obtain rfl := Option.some.inj ho
              obtain rfl := Option.some.inj hc
              refine ⟨rfl, fun q hq => ?_⟩
              have e3 := hq.tmp 3
              simp at e3
              simp [execOp, e3, go_sem]
            | 1, ho, hc =>
              obtain rfl := Option.some.inj ho
              obtain rfl := Option.some.inj hc
              refine ⟨rfl, fun q hq => ?_⟩
              have e7 := hq.tmp 7
              simp at e7
              simp [execOp, e7, go_sem]
            | 2, ho, hc =>
              obtain rfl := Option.some.inj ho
              obtain rfl := Option.some.inj hc
              refine ⟨rfl, fun q hq => ?_⟩
              have e26 := hq.tmp 26
              simp at e26
              have d26 : f 26 = .pointer (some ⟨wr.heap.size, 0, none⟩) := hV 1 _ (by decide) (hdep ⟨1, .data⟩ (by simp) rfl) rfl
              simp [execOp, e26, d26, r1, go_sem]
            | 3, ho, hc =>
              obtain rfl := Option.some.inj ho
              obtain rfl := Option.some.inj hc
              refine ⟨rfl, fun q hq => ?_⟩
              have e3 := hq.tmp 3
              simp at e3
              simp [execOp, e3, go_sem]
            | 4, ho, hc =>
              obtain rfl := Option.some.inj ho
              obtain rfl := Option.some.inj hc
              refine ⟨rfl, fun q hq => ?_⟩
              have e7 := hq.tmp 7
              simp at e7
              simp [execOp, e7, go_sem]
            | 5, ho, hc =>
              obtain rfl := Option.some.inj ho
              obtain rfl := Option.some.inj hc
              refine ⟨rfl, fun q hq => ?_⟩
              have e29 := hq.tmp 29
              simp at e29
              have d29 : f 29 = .pointer (some ⟨wr.heap.size, 0, none⟩) := hV 4 _ (by decide) (hdep ⟨4, .data⟩ (by simp) rfl) rfl
              simp [execOp, e29, d29, r1, go_sem]
            | 6, ho, hc =>
              obtain rfl := Option.some.inj ho
              obtain rfl := Option.some.inj hc
              refine ⟨rfl, fun q hq => ?_⟩
              have e28 := hq.tmp 28
              simp at e28
              have d28 : f 28 = .map (some mb) := hV 3 _ (by decide) (hdep ⟨3, .data⟩ (by simp) rfl) rfl
              have e30 := hq.tmp 30
              simp at e30
              have d30 : f 30 = .string pf := hV 5 _ (by decide) (hdep ⟨5, .data⟩ (by simp) rfl) rfl
              have hlk := HLK.out W (hPre (hcl.no hli 10 ⟨6, .data⟩ rfl rfl (by simp) rfl))
              simp [execOp, e28, d28, e30, d30, hlk, go_sem]
            | 7, ho, hc =>
              obtain rfl := Option.some.inj ho
              obtain rfl := Option.some.inj hc
              refine ⟨rfl, fun q hq => ?_⟩
              have e7 := hq.tmp 7
              simp at e7
              simp [execOp, e7, go_sem]
            | 8, ho, hc =>
              obtain rfl := Option.some.inj ho
              obtain rfl := Option.some.inj hc
              refine ⟨rfl, fun q hq => ?_⟩
              have e32 := hq.tmp 32
              simp at e32
              have d32 : f 32 = .pointer (some ⟨wr.heap.size, 1, none⟩) := hV 7 _ (by decide) (hdep ⟨7, .data⟩ (by simp) rfl) rfl
              simp [execOp, e32, d32, r2, go_sem]
            | 9, ho, hc => exact absurd hc (by simp)
            | 10, ho, hc => exact absurd hc (by simp)
            | 11, ho, hc => exact absurd hc (by simp)
            | (_ + 12), ho, hc => exact absurd hc (by simp)
          · intro listed f o W ho hdep hP hV
            obtain rfl := Option.some.inj ho
            have hbA := Bl.alloc (Below.refl W.heap.size W) (.cells #[.string pb] 9)
            refine ⟨rfl, .slice (some ⟨W.heap.size, 0, none⟩) 1 1, W.alloc (.cells #[.string pb] 9), fun q hq => ?_, Bl.trans hP hbA, ⟨W.heap.size, rfl, blk_new W _⟩, hbA⟩
            have e33 := hq.tmp 33
            simp at e33
            have d33 : f 33 = .string pb := hV 8 _ (by decide) (hdep ⟨8, .data⟩ (by simp) rfl) rfl
            simp [execOp, e33, d33, go_sem]
          · intro listed f o W ho hdep hP hS _ hV
            obtain rfl := Option.some.inj ho
            obtain ⟨g, hg1, hg2⟩ := hS
            have d31 : f 31 = hdrV hd := hV 6 _ (by decide) (hdep ⟨6, .data⟩ (by simp) rfl) rfl
            refine ⟨rfl, fun K hK => ?_⟩
            obtain ⟨v', w', hr, h2, h3, h4⟩ := (HOW.out W hP).app TS.ok 45 g 1 pb hg2 rfl HLE.out (Nat.le_trans HZ6.out hP.size)
            refine oper_append (.tmp 31) (.tmp 34) 45 rfl (hdrV hd) (.slice (some ⟨g, 0, none⟩) 1 1) v' (by rw [← d31]; simp [putsA_eval]) (by rw [← hg1]; simp [putsA_eval]) hr (hK v' w' ?_)
            have hT := (HM6.out.low hP).turn (HOW.out W hP) HAP.out h2 h3 h4
            have hBw : Below w.heap.size W w' := app_belowR (HOW.out W hP) h3 (Nat.le_trans HZ6.out hP.size)
            obtain ⟨hd4, rfl⟩ := hdr_ofR h2
            exact ⟨hd4, rfl, Lib.hid ⟨hT, (hP.mono HZ6.out).trans hBw, ownR_off (HWY6.out.below hP) (HOW.out W hP) (by decide) h3, blk_offR (blk_below HX6.out hP) (HOW.out W hP) (by decide) h3⟩⟩
          · intro listed f o W ho hdep hMid hV
            obtain rfl := Option.some.inj ho
            obtain ⟨hd4, e4, hF⟩ := hMid
            obtain ⟨hF1, hF2, hF3, hF4⟩ := hF.out
            rw [e4] at hF1
            obtain ⟨w5, hr5, h5, hk5⟩ := hF1.put HPF.out HFL.out
            refine ⟨rfl, w5, fun q hq => ?_, Lib.hid ⟨⟨hd4, h5⟩, hF2.trans (Gr.below hk5 HMB.out (Nat.le_trans HZ6.out hF2.size)), ownR_offM hF3 hF1.map hk5, blk_offM hF4 hF1.map hk5⟩⟩
            have e25 := hq.tmp 25
            have e27 := hq.tmp 27
            have e35 := hq.tmp 35
            simp at e25 e27 e35
            have d25 : f 25 = .map (some mb) := hV 0 _ (by decide) (hdep ⟨0, .data⟩ (by simp) rfl) rfl
            have d27 : f 27 = .string pf := hV 2 _ (by decide) (hdep ⟨2, .data⟩ (by simp) rfl) rfl
            simp [execOp, e25, e27, e35, d25, d27, e4, hr5, go_sem]
          intro f w5 hP hV
          clear hV
          unfold putsA
          simp only [List.mapIdx_toArray, List.mapIdx_cons, List.mapIdx_nil, List.contains_cons]
          simp
          have HF := hP
          clear hP
          obtain ⟨⟨hd4, g1⟩, g2, g3, _⟩ := HF.out
          have HQ1 := Lib.hid g1
          have HQ2 := Lib.hid (HB6.out.trans g2)
          have HQ3 := Lib.hid g3
          have HQ4 : Hid (WayRows (F.put (bsOf pf) (hd4, rowB F (bsOf pf) ++ [pb])) (waysL (l.take k) ++ (waysA x).take (j + 1))) := Lib.hid (by rw [← HPA.out]; exact HWN.out hd4)
          clear g1 g2 g3 HF
          go_wp2
          go_roundw
          case rel => exact ⟨j + 1, _, by omega, by go_num, HQ4, HQ1, HQ2, HQ3⟩
          case measure => simp [intOf]; omega
        · obtain rfl : j = n := by omega
          have HE : Hid (WayRows F (waysL (l.take (k + 1)))) := Lib.hid (by
            have := HWR2.out
            rw [show (waysA x).take j = waysA x from List.take_of_length_le (by rw [HZW.out, ← HN.out]; exact Nat.le_refl _), ← waysL_take HX.out] at this
            exact this)
          go_wp2
          go_roundw
          case rel => exact ⟨k + 1, F, by omega, by go_num, HE, HMD, HBD⟩
          case measure => simp [intOf]; omega
    · obtain rfl : k = l.length := by omega
      have HWE : Hid (WayRows F (waysL l)) := Lib.hid (by have := HWR.out; rwa [List.take_length] at this)
      have hO2 := HM.out.map.2
      obtain ⟨fl, hfl⟩ : ∃ fl, fl = (hdS F).length := ⟨_, rfl⟩
      rw [← hfl] at hO2
      have hmlt := HM.out.map.lt
      have HNO : Hid (∀ left : Lit → Bool, left = (fun z => Maps.has (DataW.map (smD TMh (hdS F))) z) → SrtRows F F left) := Lib.hid fun left h => SrtRows.start HWE.out.ne h
      obtain ⟨wo, hwo⟩ : ∃ wo : World, wo = wr := ⟨_, rfl⟩
      rw [← hwo] at hO2 hmlt ⊢
      rw [← hwo] at HM HB
      clear hfl hwo
      go_wp2_with (first
        | (at_range; refine wpList_range_own _ rfl _ 129 rfl 9 45 strKd Tryz.underlying129 _ mb fl (.map (smD TMh (hdS F))) rfl hO2 ?_; intro w0 hrg0 hg0 hs0)
        | go_in)
      go_frame
      go_loopw [] (fun wr => ∃ (F2 : Fds) (left : Lit → Bool) (cnt : Nat), wr.ranges Tryz.prog 9 TMh.R mb wo.heap.size fl (.map (smD TMh (hdS F))) left cnt ∧ Hid (SrtRows F F2 left) ∧ Hid (ByM wr mb w.heap.size F2) ∧ Hid (Below w.heap.size w wr) ∧ wo.heap.size < wr.heap.size) (fun wr => wr.rangeLeft mb wo.heap.size)
      case atStart => exact ⟨F, _, _, hrg0, Lib.hid (HNO.out _ rfl), Lib.hid (HM.out.low (Gr.below_none hg0)), Lib.hid (Bl.trans HB.out (Gr.below_none hg0)), by omega⟩
      case round =>
        obtain ⟨F2, left, cnt, hrg, HSR, HM2, HB2, hsz⟩ := hrel
        go_wp2_with (first
          | (at_next; refine next_g TMh.ok rfl _ rfl rfl hrg ?_ ?_)
          | go_in)
        · intro _ hl0
          have HFN : Hid (NextM wr mb w.heap.size l F2) := Lib.hid ⟨HM2.out, fun k => by
            have h1 := HSR.out.row k
            rw [if_neg (by rw [hl0]; decide), HWE.out.row, map_bs_ba] at h1
            exact h1, HSR.out.ne, by
            have h1 := congrArg List.length HSR.out.hd
            rw [hdS_len, hdS_len] at h1
            have h2 := HWE.out.len
            have h3 := waysL_len l
            omega⟩
          go_wp2
          go_ret
          exact ⟨⟨mb, F2, rfl, HMB.out, HFN.out⟩, HB2.out⟩
        · intro x ha hb hc w1' cnt1 hxl hlk hget hrg1 hlt hg1 hsz1 hen
          obtain ⟨hd, hhd⟩ : ∃ hd : Hdr, hd = (ha, hb, hc) := ⟨_, rfl⟩
          rw [← hhd] at hget hen ⊢
          clear hhd
          obtain ⟨_, ho2, ho3⟩ := ranges_obj hrg
          have HM3 := Lib.hid (HM2.out.iter hg1 ho2 ho3)
          have hb1 : Below w.heap.size w w1' := Below.trans HB2.out (Gr.below hg1 (by have := HB.out.size; omega) HB2.out.size)
          have HB3 := Lib.hid hb1
          rw [← HSR.out.hd, hdS_get] at hget
          obtain ⟨lr, hgl⟩ : ∃ l, F2.get x = some (hd, l) := by
            cases hg : F2.get x with
            | none => rw [hg] at hget; cases hget
            | some p => rw [hg] at hget; injection hget with hget; exact ⟨p.2, by rw [← hget]⟩
          have HGL := Lib.hid hgl
          have hOr := HM3.out.rows.own _ (Sm.get_mem hgl)
          have HLR : Hid (lr.length ≤ 1000000) := Lib.hid (by
            have h1 := HSR.out.row x
            unfold rowB at h1
            rw [hgl] at h1
            simp only [Option.map_some, Option.getD_some] at h1
            have h2 := HWE.out.rowLen x
            unfold rowB at h2
            have h3 := waysL_len l
            rw [if_pos hlk] at h1
            rw [h1]
            omega)
          have HSO := Lib.hid (SortC_any (lr.map bsOf) w.heap.size (hdrV hd) w1' (by rw [map_ba_bs]; exact hOr) (by rw [List.length_map]; exact HLR.out))
          have HOR := Lib.hid hOr
          have HNX := Lib.hid (HSR.out.next hlk hgl)
          have hen2 : (Instr.entry (.pointer (some ⟨wo.heap.size, 0, none⟩))).run Tryz.prog w1' = .ok (.tuple #[.string (baOf x), hdrV hd]) w1' := hen
          obtain ⟨hv, hhv⟩ : ∃ hv, hv = hdrV hd := ⟨_, rfl⟩
          have HVE := Lib.hid hhv
          rw [← hhv] at HSO hen2
          clear hb1 hget hgl hOr hen hhv
          go_wp2_with fail
          refine HSO.out.mono ?_
          rintro e w5 ⟨rfl, h51, h52⟩
          rw [HVE.out] at h51 h52
          have HM5 := Lib.hid (HM3.out.sorted HGL.out h51 h52)
          have hof := range_off hrg1 HOR.out
          have HRG5 := hrg1.kept h52 hof.1 hof.2
          have HB5 := Lib.hid (HB3.out.trans (app_belowR HOR.out h52 HB3.out.size))
          have hz5 := h52.size
          clear h51 h52 hof hrg1
          go_wp2
          go_roundw
          case rel => exact ⟨_, _, cnt1, HRG5, HNX, HM5, HB5, by omega⟩
          case measure => rw [HRG5.left_eq, hrg.left_eq]; exact hlt
/-- what is wrong with a catalogue, or with parts. -/
def knownF (ps : List Prt) (l : List Alt) (ks : List ByteArray) : Int := if catsF ps l ≠ 0 then catsF ps l else if ks.all (hasP ps) = true then 0 else 8
set_option maxHeartbeats 4000000 in
set_option maxRecDepth 100000 in
theorem known_any (ps : List Prt) (l : List Alt) (vp va vk : Value) (ks : List ByteArray) (w : World) (hl : ps.length ≤ 1000000) (hl2 : l.length ≤ 1000000) (_hlk : ks.length ≤ 1000) (hz : PrtZ ps) (hz2 : AltZ l) (hc : CatR w vp va ps l) (hk : RecR TS w 0 vk ks) :
    Calls Tryz.prog 79 #[.agg #[vp, va], vk] w fun e w' => e = .returned (.int .i64 (knownF ps l ks)) ∧ Below w.heap.size w w' := by
  have HCC := Lib.hid fun W (hW : Below w.heap.size w W) => CheckCatalogue_any ps l vp va W hl hl2 hz hz2 (hc.low hW)
  have HHA := Lib.hid fun (hs : SortP ps) (key : ByteArray) W (hW : Below w.heap.size w W) => has_any ps l vp va key W hl hs (hc.low hW)
  have HRK := Lib.hid fun W (hW : Below w.heap.size w W) => hk.below hW
  obtain ⟨pa, pc, rfl, _, _⟩ := hc.p.form
  obtain ⟨aa, ac, rfl, _, _⟩ := hc.a.form
  obtain ⟨ka, kc, rfl, _, _⟩ := hk.form
  obtain ⟨w1, hw1⟩ : ∃ w1, w1 = w.alloc (.cells #[.slice pa ps.length pc, .slice aa l.length ac] 29) := ⟨_, rfl⟩
  have hA1 : Below w.heap.size w w1 := by rw [hw1]; exact Bl.alloc (Below.refl _ _) _
  have HXC := Lib.hid (show ∀ W, Below w1.heap.size w1 W → W.cell? ⟨w.heap.size, 0, none⟩ = some (.slice pa ps.length pc) ∧ W.cell? ⟨w.heap.size, 1, none⟩ = some (.slice aa l.length ac) from fun W hW => by
    have h3 : W.heap[w.heap.size]? = _ := blk_below (show w1.heap[w.heap.size]? = some (.cells #[.slice pa ps.length pc, .slice aa l.length ac] 29 (0, 0)) by rw [hw1]; exact blk_new w _) hW
    exact ⟨blk_cell h3 0, blk_cell h3 1⟩)
  have HW1 := Lib.hid hw1
  have HA1 := Lib.hid hA1
  obtain ⟨F, hF⟩ : ∃ F, F = catsF ps l := ⟨_, rfl⟩
  rw [← hF] at HCC
  have HF := Lib.hid hF
  have HC1 := Lib.hid (HCC.out w1 HA1.out)
  obtain ⟨G, hG⟩ : ∃ G, G = knownF ps l ks := ⟨_, rfl⟩
  have HV : Hid (G = if F ≠ 0 then F else if ks.all (hasP ps) = true then 0 else 8) := Lib.hid (by rw [hG, hF]; rfl)
  rw [← hG]
  clear hw1 hA1 hc hz hz2 hk hF hG HCC
  go_enter Tryz.func79, Tryz.ntmps79
  go_wp2_with fail
  rw [← HW1.out]
  refine HC1.out.mono ?_
  rintro e w2 ⟨rfl, hb2⟩
  have HB2 := Lib.hid (Bl.trans HA1.out hb2)
  have HR2 := Lib.hid hb2
  clear hb2
  by_cases h0 : F = 0
  case neg =>
    have HGG : Hid (G = F) := Lib.hid (by rw [HV.out, if_pos h0])
    have h0' : (F != 0) = true := by simpa using h0
    go_wp2
    go_ret
    exact ⟨ret_int HGG.out.symm, HB2.out⟩
  have HS := Lib.hid (prtsF1_sorted ps none (catsF_ok (HF.out.symm.trans h0)).2.1).2
  have HGG : Hid (G = if ks.all (hasP ps) = true then 0 else 8) := Lib.hid (by rw [HV.out, if_neg (by simp [h0])])
  subst h0
  clear HV
  go_wp2_with fail
  go_loopw [15] (fun i wr => ∃ k : Nat, k ≤ ks.length ∧ i = .int .i64 k ∧ Hid ((ks.take k).all (hasP ps) = true) ∧ Hid (Below w2.heap.size w2 wr)) (fun i _ => ks.length - (intOf i).toNat)
  case atStart => exact ⟨0, Nat.zero_le _, rfl, Lib.hid rfl, Lib.hid (Below.refl _ _)⟩
  case round =>
    obtain ⟨k, hk, rfl, HP, HB⟩ := hrel
    by_cases hlt : k < ks.length
    · obtain ⟨x, hx⟩ : ∃ x, ks[k]? = some x := ⟨_, List.getElem?_eq_getElem hlt⟩
      obtain ⟨b1, o1, rfl, _, _, c0⟩ := str_at (HRK.out wr (Bl.trans HB2.out HB.out)) hx
      obtain ⟨u0, u1⟩ := HXC.out wr (Bl.trans HR2.out HB.out)
      have HHX := Lib.hid (HHA.out HS.out x wr (Bl.trans HB2.out HB.out))
      have hwk : IntKind.i64.wrap ((k : Int) + 1) = ((k + 1 : Nat) : Int) := by rw [IntWalk.i64_in _ (by omega)]; omega
      obtain ⟨q, hq⟩ : ∃ q, q = hasP ps x := ⟨_, rfl⟩
      rw [← hq] at HHX
      have HQ := Lib.hid hq
      have HM := Lib.hid (List.mem_of_getElem? hx)
      have HT : Hid ((ks.take (k + 1)).all (hasP ps) = ((ks.take k).all (hasP ps) && q)) := Lib.hid (by rw [List.take_add_one, hx, hq]; simp)
      clear hx hq
      go_wp2_with fail
      refine HHX.out.mono ?_
      rintro e w3 ⟨rfl, hb3⟩
      have HB3 := Lib.hid (Bl.trans HB.out hb3)
      clear hb3
      cases q
      · have HF8 : Hid (G = 8) := Lib.hid (by rw [HGG.out, if_neg fun h => by have := List.all_eq_true.1 h x HM.out; rw [← HQ.out] at this; cases this])
        have HBF := Lib.hid (Bl.trans HB2.out HB3.out)
        go_wp2
        go_ret
        exact ⟨ret_int HF8.out.symm, HBF.out⟩
      · have HN : Hid ((ks.take (k + 1)).all (hasP ps) = true) := Lib.hid (by rw [HT.out, HP.out]; rfl)
        go_wp2
        go_roundw
        case rel => exact ⟨k + 1, by omega, by go_num, HN, HB3⟩
        case measure => simp [intOf]; omega
    · obtain rfl : k = ks.length := by omega
      have HF0 : Hid (G = 0) := Lib.hid (by rw [HGG.out, if_pos (by have := HP.out; rwa [List.take_length] at this)])
      have HBF := Lib.hid (Bl.trans HB2.out HB.out)
      go_wp2
      go_ret
      exact ⟨ret_int HF0.out.symm, HBF.out⟩
end Go.Proofs.YtihgnpobkpnipaaGreatDoor
