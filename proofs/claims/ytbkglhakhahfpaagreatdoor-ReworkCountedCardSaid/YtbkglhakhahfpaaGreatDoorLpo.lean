/- How often boards were repaired entirely: the program's side. Rows of pairs. Conditions: the library's table of powers of ten. · slices.SortFunc at rows of records that the call owns; pairs of names and counts, sorted by name. No conditions. · The insertion sort keeps what is before: at a list in order it sorts by the finer order too. Insertion at rows of records. No conditions. · The reference's pairs: a map of counts as pairs, sorted by name. Conditions: the library's table of powers of ten. · slices.Equal of Pairs. Conditions: at most 10^6 of them. · The reference's loops: what the steps say, and the shop beside a map of counts. -/
import Derived.Test.YtbkglhakhahfpaaGreatDoorAcc
import Derived.Test.YtbkglhakhahfpaaGreatDoorTcl
import Derived.Test.YtbkglhakhahfpaaGreatDoorSortRow
import Derived.Test.YtbkglhakhahfpaaGreatDoorSrtP
import Derived.Shelf.SlSortCmp.NoneTotal
import Derived.Test.YtbkglhakhahfpaaGreatDoorTho
import Derived.Test.YtbkglhakhahfpaaGreatDoorRec
import Derived.Test.YtbkglhakhahfpaaGreatDoorStrs
namespace Go.Proofs.YtbkglhakhahfpaaGreatDoor
open Go.RowKit Go.Sort Go.Maps

abbrev Pr := ByteArray × ByteArray
def TPr : Rty Pr := { e := 50, S := 42, k := 2, b := 32, z := .agg #[.string ByteArray.empty, .string ByteArray.empty], f := fun s => [.string s.1, .string s.2] }
theorem TPr.ok : TPr.Ok := ⟨by kernel_rfl, Tryz.underlying42, rfl, by decide, fun _ => rfl, fun x u hu => by simp [TPr] at hu; rcases hu with rfl | rfl <;> rfl, by decide⟩
def itB (n : Int) : ByteArray := ⟨(Lib.itoa n).toArray⟩
def prOf (p : Bs × Int) : Pr := (baOf p.1, itB p.2)
/-- how often boards were repaired entirely. -/
def lpL (m : Sm Bd0) : Sm Int := (m.mapv (·.lp)).filter fun p => decide (0 < p.2)
theorem lpL_take {m : Sm Bd0} {k : Nat} {p : Bs × Bd0} (hp : m[k]? = some p) : lpL (m.take (k + 1)) = lpL (m.take k) ++ if 0 < p.2.lp then [(p.1, p.2.lp)] else [] := by
  obtain ⟨hk, he⟩ := List.getElem?_eq_some_iff.1 hp
  have : m.take (k + 1) = m.take k ++ [p] := by rw [List.take_add_one, hp]; rfl
  rw [this]
  unfold lpL Sm.mapv
  rw [List.map_append, List.filter_append]
  by_cases h : 0 < p.2.lp
  · rw [if_pos h]; simp [h]
  · rw [if_neg h]; simp [h]
theorem lpL_len (m : Sm Bd0) : (lpL m).length ≤ m.length := by
  unfold lpL
  have := List.length_filter_le (fun p : Bs × Int => decide (0 < p.2)) (m.mapv (·.lp))
  rw [Sm.len_mapv] at this
  exact this
def lpsA (rh rr : Int) (l : List Stp) : Sm Int := if fltF rh rr l = 0 then lpL (runS rh rr 345686400000 [] l) else []
set_option maxHeartbeats 4000000 in
set_option maxRecDepth 100000 in
theorem Loops_any (rh rr : Int) (l : List Stp) (v : Value) (w : World) (hT : TxW w) (hl : l.length ≤ 1000000) (rl : RecR TSt w 0 v l) (hz : StpZ l) :
    Calls Tryz.prog 16 #[.agg #[.int .i64 rh, .int .i64 rr], v] w fun e w' => (∃ v', e = .returned (.tuple #[v', .int .i64 (fltF rh rr l)]) ∧ OwnR TPr w' w.heap.size v' ((lpsA rh rr l).map prOf)) ∧ Below w.heap.size w w' := by
  have hR0 := blk_new w (.cells #[.int .i64 rh, .int .i64 rr] 27)
  have hb0 := Bl.alloc (Below.refl w.heap.size w) (.cells #[.int .i64 rh, .int .i64 rr] 27)
  have HF := Lib.hid (fault_any rh rr l v _ hl (rl.below hb0) hz)
  obtain ⟨F, hF⟩ : ∃ F, F = fltF rh rr l := ⟨_, rfl⟩
  rw [← hF] at HF
  obtain ⟨R, hR⟩ : ∃ R, R = lpsA rh rr l := ⟨_, rfl⟩
  rw [← hF, ← hR]
  have HRD := Lib.hid (show R = if F = 0 then lpL (runS rh rr 345686400000 [] l) else [] by rw [hR, hF]; rfl)
  have HFE := Lib.hid hF
  have RL := Lib.hid fun U (hU : Below w.heap.size w U) => rl.below hU
  have HT := Lib.hid fun U (hU : Below w.heap.size w U) => hT.below hU
  have HR0 := Lib.hid (And.intro hR0 hb0)
  clear hF hR rl hz hR0 hb0 hT
  by_cases h0 : F = 0
  · have HZ := Lib.hid (fltF_zero (HFE.out ▸ h0))
    subst h0
    have HRM : Hid (R = lpL (runS rh rr 345686400000 [] l)) := Lib.hid (by rw [HRD.out, if_pos rfl])
    clear HRD
    go_enter Tryz.func16, Tryz.ntmps16
    go_wp2_with fail
    refine HF.out.mono ?_
    rintro e w1 ⟨rfl, hb1⟩
    have hB1 := Bl.trans HR0.out.2 hb1
    have hR1 := blk_below HR0.out.1 hb1
    have q0 : w1.cell? ⟨w.heap.size, 0, none⟩ = some (.int .i64 rh) := blk_cell hR1 0
    have q1 : w1.cell? ⟨w.heap.size, 1, none⟩ = some (.int .i64 rr) := blk_cell hR1 1
    have HSA := Lib.hid (shopAt_any rh rr 345686400000 l v w1 (RL.out w1 hB1) HZ.out.2)
    have hz1 := hB1.size
    clear hb1 hR1
    go_wp2_with fail
    refine HSA.out.mono ?_
    rintro e w2 ⟨⟨S, rfl, ⟨⟨L, hL, hLm⟩, _⟩⟩, hb2⟩
    have HN := Lib.hid (And.intro (run_names (rh := rh) (rr := rr) (at' := 345686400000) HZ.out.2) (run_small (rh := rh) (rr := rr) (at' := 345686400000) HZ.out.2))
    have HB2 := Lib.hid (Below.trans hB1 (hb2.mono hz1))
    clear hb2 HSA q0 q1 hB1 HF HR0
    generalize runS rh rr 345686400000 [] l = m at *
    have lS := hL.lt
    have hLl : L.length ≤ 100000 := by rw [← Sm.len_mapv (·.2) L, hLm]; exact HN.out.2.1
    have c1 : w2.cell? ⟨S, 2, none⟩ = some (.map (some (S - 1))) := blk_cell hL.blk 2
    have HL := Lib.hid hL
    have HLM := Lib.hid hLm
    have HSO := Lib.hid (sortedP_any (S - 1) _ w2 hL.map (by rw [Sm.len_mapv]; exact hLl))
    clear hL hLm
    go_wp2_with fail
    refine (keysP_any (S - 1) w2).mono ?_
    rintro e w1' ⟨rfl, rfl⟩
    go_wp2_with fail
    refine HSO.out.mono ?_
    rintro e w3 ⟨kv, rfl, hO, hb3⟩
    obtain ⟨va, vc, rfl, _, _⟩ := hO.form
    have hlk : ((Sm.keys (L.mapv fun x => some x.1)).map baOf).length = L.length := by rw [List.length_map, keys_len, Sm.len_mapv]
    have HO := Lib.hid hO
    rw [hlk]
    clear hO hlk
    go_wp2_with fail
    have hz3 := hb3.size
    have hz2 := HB2.out.size
    have HB3 := Lib.hid hb3
    clear hb3
    go_loopw [8, 28] (fun ov i wr => ∃ (k : Nat), k ≤ L.length ∧ i = .int .i64 k ∧ OwnR TPr wr w3.heap.size ov ((lpL (m.take k)).map prOf) ∧ Below w3.heap.size w3 wr) (fun _ i _ => L.length - (intOf i).toNat)
    case atStart => exact ⟨0, Nat.zero_le _, rfl, OwnR.nil _ _, Below.refl _ _⟩
    case round =>
      obtain ⟨k, hk, rfl, hOv, hb⟩ := hrel
      by_cases hlt : k < L.length
      · obtain ⟨⟨ks, g, b⟩, hp⟩ : ∃ p, L[k]? = some p := ⟨_, List.getElem?_eq_getElem hlt⟩
        have hpm : m[k]? = some (ks, b) := by rw [← HLM.out]; unfold Sm.mapv; rw [List.getElem?_map, hp]; rfl
        have hnm : (baOf ks).size ≤ maxLen := by
          have := HN.out.1 _ (List.mem_of_getElem? hpm)
          have e : (baOf ks).size = ks.length := by show ks.toArray.size = _; simp
          rw [e]; unfold maxLen; simp only at this; omega
        have hsm := HN.out.2.2 _ (List.mem_of_getElem? hpm)
        have hlp0 : 0 ≤ b.lp := hsm.2.2.1
        have hlp1 : b.lp ≤ 100000 := hsm.2.2.2.1
        have HIS := Lib.hid (lpL_take hpm)
        have hLw := (HL.out.below HB3.out).below hb
        obtain ⟨b1, o1, rfl, _, hl1, hx1⟩ := str_at (HO.out.rec0.below hb) (keys_at (m := L.mapv fun x => some x.1) (p := (ks, some g)) (by unfold Sm.mapv; rw [List.getElem?_map, hp]; rfl))
        simp only at hx1
        have hBr := (hLw.brd _ (List.mem_of_getElem? hp)).2
        have d5 : wr.cell? ⟨g, 5, none⟩ = some (.int .i64 b.lp) := blk_cell hBr.2.1 5
        have d2 : wr.cell? ⟨S, 2, none⟩ = some (.map (some (S - 1))) := blk_cell hLw.blk 2
        have hget : (L.mapv fun x => some x.1).get (baOf ks).data.toList = some (some g) := by
          rw [Sm.get_mapv, show (baOf ks).data.toList = ks from bsOf_baOf ks, Sm.get_of_mem hLw.ok (List.mem_of_getElem? hp)]; rfl
        have hlk : (Instr.lookup 154 (.map (some (S - 1))) (.string (baOf ks)) false).run Tryz.prog wr = .ok (.pointer (some ⟨g, 0, none⟩)) wr := by
          have := hLw.map.look TP.ok (baOf ks) hnm
          rw [hget] at this
          exact this
        have hw1 : IntKind.i64.wrap ((k : Int) + 1) = ((k + 1 : Nat) : Int) := by rw [IntWalk.i64_in _ (by omega)]; omega
        have lg := hBr.lt
        have lSr := hLw.lt
        have hlen : ((lpL (m.take k)).map prOf).length ≤ 1000000 := by
          rw [List.length_map]
          have := lpL_len (m.take k)
          rw [List.length_take] at this
          omega
        have hBw : Below w.heap.size w wr := HB2.out.trans ((HB3.out.mono hz2).trans (hb.mono (by omega)))
        have HIT := Lib.hid (Itoa_any b.lp wr (HT.out _ hBw) (by omega) (by omega))
        obtain ⟨ib, hib⟩ : ∃ x, x = itB b.lp := ⟨_, rfl⟩
        have HIB := Lib.hid hib
        rw [show (⟨(Lib.itoa b.lp).toArray⟩ : ByteArray) = ib from hib.symm] at HIT
        have hzr : w3.heap.size ≤ wr.heap.size := hb.size
        clear hLw hBr hget hnm hpm hp hib hBw
        have HOv := Lib.hid hOv
        by_cases hst : 0 < b.lp
        · have hI2 := HIS.out
          rw [if_pos hst] at hI2
          have HI2 := Lib.hid hI2
          have hbst : decide (b.lp > 0) = true := by simpa using hst
          clear hI2 hOv
          go_wp2_with fail
          refine HIT.out.mono ?_
          rintro e w4 ⟨rfl, hb4⟩
          have hO4 := HOv.out.below hb4
          have HO4 := Lib.hid hO4
          have hB4 := Below.trans hb (hb4.mono hzr)
          have hz4 := hb4.size
          have HB4 := Lib.hid hB4
          clear hO4 hb4 hB4 HIT
          go_wp2_with (at_builtin; refine wp_app_rec TPr.ok rfl _ _ rfl w3.heap.size _ ((lpL (m.take k)).map prOf) rfl (HO4.out.alloc _) w4.heap.size 1 (baOf ks, ib) rfl (blk_new w4 _) rfl hlen (by simp; omega) ?_)
          intro v' w5 hO5 hA5 hb5
          have hbx5 : Below w3.heap.size w3 w5 := Below.trans (Bl.alloc HB4.out _) hb5
          have HO5 : Hid (OwnR TPr w5 w3.heap.size v' ((lpL (m.take (k + 1))).map prOf)) := Lib.hid (by rw [HI2.out, List.map_append, HIB.out] at *; exact hO5)
          clear hO5 hA5
          go_wp2
          go_roundw
          case rel => exact ⟨k + 1, by omega, by go_num, HO5.out, hbx5⟩
          case measure => simp [intOf]; omega
        · have hI2 := HIS.out
          rw [if_neg hst, List.append_nil] at hI2
          have HO5 : Hid (OwnR TPr wr w3.heap.size u8 ((lpL (m.take (k + 1))).map prOf)) := Lib.hid (by rw [hI2]; exact hOv)
          have hbst : decide (b.lp > 0) = false := by simpa using hst
          clear hI2 hOv
          go_wp2
          go_roundw
          case rel => exact ⟨k + 1, by omega, by go_num, HO5.out, hb⟩
          case measure => simp [intOf]; omega
      · obtain rfl : k = L.length := by omega
        have hfull : m.take L.length = m := by rw [← HLM.out, ← Sm.len_mapv (·.2) L, List.take_length]
        rw [hfull] at hOv
        have HOV := Lib.hid (hOv.base (show w.heap.size ≤ w3.heap.size by omega))
        have HBB := Lib.hid (HB2.out.trans ((HB3.out.mono hz2).trans (hb.mono (by omega))))
        clear hOv
        go_wp2
        go_ret2
        exact ⟨⟨_, rfl, by rw [HRM.out]; exact HOV.out⟩, HBB.out⟩
  · have HRM : Hid (R = []) := Lib.hid (by rw [HRD.out, if_neg h0])
    clear HRD
    go_enter Tryz.func16, Tryz.ntmps16
    go_wp2_with fail
    refine HF.out.mono ?_
    rintro e w1 ⟨rfl, hb1⟩
    have HB1 := Lib.hid (Bl.trans HR0.out.2 hb1)
    clear hb1
    go_wp2
    go_ret2
    exact ⟨⟨_, rfl, by rw [HRM.out]; exact OwnR.nil _ _⟩, HB1.out⟩
end Go.Proofs.YtbkglhakhahfpaaGreatDoor
namespace Go.Proofs.YtbkglhakhahfpaaGreatDoor
open Go.RowKit Go.Sort Go.Maps Go.Shelf Go.Lib

theorem flatK_flat {α : Type} [Inhabited α] {f : α → List Value} {k : Nat} (hk : ∀ x, (f x).length = k) (l : List α) : flatK f k l.toArray = (l.flatMap f).toArray := by
  have hlen : (l.flatMap f).length = l.length * k := by
    induction l with
    | nil => simp
    | cons a l ih => rw [List.flatMap_cons, List.length_append, ih, hk, List.length_cons, Nat.succ_mul, Nat.add_comm]
  refine ext_get! (by simp [hlen]) fun t ht => ?_
  have ht' : t < l.length * k := by simpa using ht
  have k0 : 0 < k := by
    rcases Nat.eq_zero_or_pos k with h | h
    · subst h; simp at ht'
    · exact h
  rw [get_flatK f k l.toArray t (by simpa using ht')]
  have hq : t / k < l.length := (Nat.div_lt_iff_lt_mul k0).2 ht'
  have hr : t % k < k := Nat.mod_lt _ k0
  have hx : l[t / k]? = some l[t / k] := List.getElem?_eq_getElem hq
  have hu : (f l[t / k])[t % k]? = some (f l[t / k])[t % k]! := by
    rw [getElem!_pos _ _ (by rw [hk]; exact hr)]
    exact List.getElem?_eq_getElem _
  have := flat_at hk l (t / k) _ hx (t % k) _ hu
  rw [Nat.div_add_mod' t k] at this
  have e1 : l.toArray[t / k]! = l[t / k] := by simp [hq]
  rw [e1]
  have : (l.flatMap f).toArray[t]? = some (f l[t / k])[t % k]! := by simpa using this
  conv => rhs; rw [getElem!_def, this]
section
variable {α : Type} [Inhabited α] {T : Rty α}
theorem belK {w : World} {g B : Nat} (hBg : B ≤ g) (hB : B ≤ w.heap.size) (q : Nat) (os : Array Obj) (dk : Array α) : Below B w (sortWorldK T.f T.k w g 0 q dk os) :=
  Gr.below (grownBy_resorted id (flatK T.f T.k dk)) hBg hB
/-- slices.SortFunc at a row of records that the call owns. -/
theorem sortRow_any {ρ : Ren} (L : SlLaysF0.n6 Tryz.prog ρ) (hT : T.Ok) (h1 : ∀ x, ∀ v ∈ T.f x, v.oneCell' = true) (aE : ∀ w, (isAgg (ρ.t 24)).run Tryz.prog w = .ok true w) (zE : ∀ w, (Go.sizeOf (ρ.t 24)).run Tryz.prog w = .ok T.k w)
    (cf : α → α → Int) (hO : SWO (ltOf cf)) (fn : Nat) (cb : Array Value) (eg : ∀ args w, (callFunc fn args).run Tryz.prog w = .ok (.enter fn args) w) (w : World) (B : Nat) (hB : B ≤ w.heap.size) (l : List α) (v : Value) (ho : OwnR T w B v l) (h0 : l ≠ []) (hl : l.length ≤ 1000000)
    (hcmp : ∀ W, Below B w W → ∀ x y, Calls Tryz.prog fn (#[.agg (T.f x).toArray, .agg (T.f y).toArray] ++ cb) W fun e w' => e = .returned (.int .i64 (cf x y)) ∧ ∃ q os', w' = grow (W.drewN q) os') :
    Calls Tryz.prog (ρ.f 6) #[v, .func (.func fn) #[] cb] w fun e w' => e = .returned (.tuple #[]) ∧ ∃ l' : List α, l'.Perm l ∧ (l'.Pairwise fun a b => ltOf cf b a = false) ∧ OwnR T w' B v l' ∧ Below B w w' := by
  obtain ⟨g, cap, cur, rfl, hBg, hb, hc1, hc2, hc3, hc4⟩ := ho.blk h0
  have hlen : (l.flatMap T.f).length = l.length * T.k := ho.1
  have hH : HoldsK T.f T.k w g 0 l.toArray := by
    unfold HoldsK
    rw [flatK_flat hT.len]
    exact holds_row id hb (by rw [hlen, List.map_id]; exact hc4)
  have h := AnyQ.slices_SortFunc L T.k aE zE T.f hT.len h1 cf hO fn cb g 0 cap l.toArray w eg (fun q os dk _ x y => hcmp _ (belK hBg hB q os dk) x y) hH (blk_lt hb) (by simp; omega)
  simp only [List.size_toArray] at h
  refine h.mono ?_
  rintro e w' ⟨rfl, d', q, os, hp, hs, rfl⟩
  have hsz : d'.size = l.length := by rw [hp.1]; simp
  have hperm : d'.toList.Perm l := by
    have h2 := hp.2.2
    rwa [← hsz, Array.extract_size, hsz, show l.toArray.extract 0 l.length = l.toArray by rw [show l.length = l.toArray.size by simp, Array.extract_size]] at h2
  have hlen' : (d'.toList.flatMap T.f).length = l.length * T.k := by rw [(List.Perm.flatMap_right T.f hperm).length_eq, hlen]
  refine ⟨rfl, d'.toList, hperm, ?_, ?_, belK hBg hB q os d'⟩
  · rw [List.pairwise_iff_getElem]
    intro i j hi hj hij
    have := hs i j (Nat.zero_le _) hij (by simp at hj; omega)
    simp only [Array.length_toList] at hi hj
    rw [getElem!_pos d' i hi, getElem!_pos d' j hj] at this
    simpa using this
  · have hr := heap_resorted id (n := q) (os := os) (flatK T.f T.k d') hb
    have hl' : d'.toList.length = l.length := hperm.length_eq
    rw [← hl']
    refine OwnR.of_blk hBg hr (by omega) hc2 (by simp [putCells, hc3]) ?_ (by rw [hlen', hl'])
    have e : flatK T.f T.k d' = (d'.toList.flatMap T.f).toArray := by rw [← flatK_flat hT.len]
    rw [e, hl', ← hlen']
    have := take_putCells' id cur (d'.toList.flatMap T.f) (by rw [hlen', hc3]; exact Nat.mul_le_mul_right _ hc1)
    rw [List.map_id] at this
    exact this
end
theorem cmpB_lt : ∀ a b : Bs, (Lib.compareBytes a b < 0) ↔ bytesBefore a b = true
  | [], [] => by simp [Lib.compareBytes, bytesBefore]
  | [], _ :: _ => by simp [Lib.compareBytes, bytesBefore]
  | _ :: _, [] => by simp [Lib.compareBytes, bytesBefore]
  | a :: r, b :: u => by
    have ih := cmpB_lt r u
    unfold Lib.compareBytes bytesBefore
    by_cases h1 : a < b
    · simp [h1]
    · by_cases h2 : b < a
      · have : ¬ a = b := fun e => by subst e; exact h1 h2
        simp [h1, h2, this]
      · have : a = b := by
          apply UInt8.le_antisymm
          · exact UInt8.not_lt.1 h2
          · exact UInt8.not_lt.1 h1
        subst this
        simp [ih]
/-- pairs of a name and a count as a text. -/
def TPq : Rty (Bs × Int) := { e := 50, S := 42, k := 2, b := 32, z := .agg #[.string ByteArray.empty, .string ByteArray.empty], f := fun p => [.string (baOf p.1), .string (itB p.2)] }
theorem TPq.ok : TPq.Ok := ⟨by kernel_rfl, Tryz.underlying42, rfl, by decide, fun _ => rfl, fun x u hu => by simp [TPq] at hu; rcases hu with rfl | rfl <;> rfl, by decide⟩
theorem flat_pq (l : List (Bs × Int)) : (l.map prOf).flatMap TPr.f = l.flatMap TPq.f := by rw [List.flatMap_map]; rfl
theorem own_pq {w : World} {B : Nat} {v : Value} {l : List (Bs × Int)} : OwnR TPq w B v l ↔ OwnR TPr w B v (l.map prOf) := by
  unfold OwnR
  rw [flat_pq, List.length_map]
  exact Iff.rfl
def cfP (p q : Bs × Int) : Int := Lib.compareBytes p.1 q.1
theorem ltP (p q : Bs × Int) : ltOf cfP p q = bytesBefore p.1 q.1 := by
  unfold ltOf cfP
  rw [Bool.eq_iff_iff, decide_eq_true_iff]
  exact cmpB_lt _ _
theorem bb_ntrans {x y z : Bs} (h1 : bytesBefore x y = false) (h2 : bytesBefore y z = false) : bytesBefore x z = false := by
  rw [← Bool.not_eq_true]
  intro h
  by_cases e : x = y
  · subst e; rw [h2] at h; cases h
  · rcases WideAt.bytes_total _ _ e with h3 | h3
    · rw [h1] at h3; cases h3
    · rw [WideShapes.bytes_trans _ _ _ h3 h] at h2; cases h2
theorem swoP : SWO (ltOf cfP) where
  irrefl x := by rw [ltP]; exact WideAt.bytes_irrefl _
  trans x y z h1 h2 := by rw [ltP] at *; exact WideShapes.bytes_trans _ _ _ h1 h2
  ntrans x y z h1 h2 := by rw [ltP] at *; exact bb_ntrans h1 h2
theorem sorted_eq {α : Type} {m : Sm α} (hm : Sm.Ok m) {l : List (Bs × α)} (hp : l.Perm m) (hs : l.Pairwise fun a b => bytesBefore b.1 a.1 = false) : l = m := by
  have hn : (l.map (·.1)).Nodup := (hp.map (fun p : Bs × α => p.1)).nodup_iff.2 (show (m.map fun p => p.1).Nodup from Sm.keys_nodup hm)
  have hn2 : l.Pairwise fun a b => a.1 ≠ b.1 := List.pairwise_map.1 hn
  have hok : Sm.Ok l := (hs.and hn2).imp fun {a b} h => by
    rcases WideAt.bytes_total _ _ h.2 with h3 | h3
    · exact h3
    · rw [h.1] at h3; cases h3
  refine Sm.ext hok hm fun k => ?_
  cases hg : Sm.get m k with
  | some x => exact Sm.get_of_mem hok (hp.mem_iff.2 (Sm.get_mem hg))
  | none => exact Sm.get_none_of fun p hpl => Sm.get_none hg p (hp.mem_iff.1 hpl)
theorem pairs1_any (x y : Bs × Int) (W : World) : Calls Tryz.prog 195 #[.agg #[.string (baOf x.1), .string (itB x.2)], .agg #[.string (baOf y.1), .string (itB y.2)]] W fun e w' => e = .returned (.int .i64 (cfP x y)) ∧ ∃ q os', w' = grow (W.drewN q) os' := by
  have hcon := fun W' => Tryz.strings_Compare (baOf x.1) (baOf y.1) W'
  rw [show (baOf x.1).data.toList = x.1 from bsOf_baOf x.1, show (baOf y.1).data.toList = y.1 from bsOf_baOf y.1] at hcon
  unfold cfP
  generalize Lib.compareBytes x.1 y.1 = r at hcon ⊢
  go_enter Tryz.func195, Tryz.ntmps195
  go_wp2_with (go_at_call 104; refine (hcon _).mono ?_; rintro e w' ⟨rfl, rfl⟩)
  go_ret
  exact ⟨rfl, 0, _, by rw [alloc_eq_grow, alloc_eq_grow, grow_grow]; rfl⟩
end Go.Proofs.YtbkglhakhahfpaaGreatDoor
namespace Go.Proofs.YtbkglhakhahfpaaGreatDoor
open Go.RowKit Go.Sort Go.Maps Go.Shelf Go.Lib

section
variable {α : Type} [Inhabited α] {lt lt' : α → α → Bool} {r : α → α → Prop}
theorem inner_eq (hr : ∀ x y, r y x → lt x y = lt' x y) : ∀ (j : Nat) (d : Array α), j < d.size → (∀ k, k < j → r d[k]! d[j]!) → insInner lt 0 j d = insInner lt' 0 j d
  | 0, _, _, _ => rfl
  | j + 1, d, hj, h => by
    rw [insInner, insInner, hr _ _ (h j (Nat.lt_succ_self j))]
    split
    · refine inner_eq hr j _ (by rw [size_swp]; omega) fun k hk => ?_
      rw [swp_get d hj (by omega), swp_get d hj (by omega), if_pos rfl, if_neg (by omega), if_neg (by omega)]
      exact h k (by omega)
    · rfl
theorem inner_keeps (lt : α → α → Bool) : ∀ (j : Nat) (d : Array α), j < d.size → (insInner lt 0 j d).size = d.size ∧ (∀ k, j < k → (insInner lt 0 j d)[k]! = d[k]!) ∧ ∀ p : α → Prop, (∀ k, k ≤ j → p d[k]!) → ∀ k, k ≤ j → p (insInner lt 0 j d)[k]!
  | 0, _, _ => ⟨rfl, fun _ _ => rfl, fun _ h => h⟩
  | j + 1, d, hj => by
    rw [insInner]
    split
    · obtain ⟨h1, h2, h3⟩ := inner_keeps lt j (swp d (j + 1) j) (by rw [size_swp]; omega)
      refine ⟨by rw [h1, size_swp], fun k hk => ?_, fun p hp k hk => ?_⟩
      · rw [h2 k (by omega), swp_get d hj (by omega), if_neg (by omega), if_neg (by omega)]
      · by_cases hkj : k ≤ j
        · refine h3 p (fun q hq => ?_) k hkj
          rw [swp_get d hj (by omega)]
          split
          · exact hp _ (Nat.le_refl _)
          · rw [if_neg (by omega)]; exact hp q (by omega)
        · obtain rfl : k = j + 1 := by omega
          rw [h2 (j + 1) (Nat.lt_succ_self j), swp_get d hj (by omega), if_neg (by omega), if_pos rfl]
          exact hp j (Nat.le_succ j)
    · exact ⟨rfl, fun _ _ => rfl, fun _ h => h⟩
theorem outer_eq (hr : ∀ x y, r y x → lt x y = lt' x y) (n : Nat) : ∀ (f i : Nat) (d : Array α), n - i = f → n ≤ d.size → (∀ j, i ≤ j → j < n → ∀ k, k < j → r d[k]! d[j]!) → insOuter lt 0 n i d = insOuter lt' 0 n i d
  | 0, i, d, hf, _, _ => by
    rw [insOuter, if_neg (by omega)]
    conv => rhs; rw [insOuter, if_neg (by omega)]
  | f + 1, i, d, hf, hn, h => by
    have hi : i < n := by omega
    rw [insOuter, if_pos hi]
    conv => rhs; rw [insOuter, if_pos hi]
    rw [inner_eq hr i d (by omega) (h i (Nat.le_refl _) hi)]
    obtain ⟨h1, h2, h3⟩ := inner_keeps lt' i d (by omega)
    refine outer_eq hr n f (i + 1) _ (by omega) (by omega) fun j hj hjn k hk => ?_
    rw [h2 j (by omega)]
    by_cases hki : k ≤ i
    · exact h3 (fun y => r y d[j]!) (fun q hq => h j (by omega) hjn q (by omega)) k hki
    · rw [h2 k (by omega)]
      exact h j (by omega) hjn k hk
theorem insertion_finer (hr : ∀ x y, r y x → lt x y = lt' x y) (d : Array α) (h : ∀ j, j < d.size → ∀ k, k < j → r d[k]! d[j]!) : insertionSort lt d 0 d.size = insertionSort lt' d 0 d.size :=
  outer_eq hr d.size _ 1 d rfl (Nat.le_refl _) fun j _ hj => h j hj
end
section
variable {α : Type} [Inhabited α] {T : Rty α}
/-- the insertion sort at a row of records that the call owns. -/
theorem insRow_any {ρ : Ren} (L : SlLaysF0.n20 Tryz.prog ρ) (hT : T.Ok) (aE : ∀ w, (isAgg (ρ.t 24)).run Tryz.prog w = .ok true w) (zE : ∀ w, (Go.sizeOf (ρ.t 24)).run Tryz.prog w = .ok T.k w)
    (cf : α → α → Int) (fn : Nat) (cb : Array Value) (eg : ∀ args w, (callFunc fn args).run Tryz.prog w = .ok (.enter fn args) w) (w : World) (B : Nat) (hB : B ≤ w.heap.size) (l : List α) (v : Value) (ho : OwnR T w B v l) (h0 : l ≠ []) (hl : l.length ≤ 1000000)
    (hcmp : ∀ W, Below B w W → ∀ x y, Calls Tryz.prog fn (#[.agg (T.f x).toArray, .agg (T.f y).toArray] ++ cb) W fun e w' => e = .returned (.int .i64 (cf x y)) ∧ ∃ q os', w' = grow (W.drewN q) os') :
    Calls Tryz.prog (ρ.f 20) #[v, .int .i64 0, .int .i64 l.length, .func (.func fn) #[] cb] w fun e w' => e = .returned (.tuple #[]) ∧ OwnR T w' B v (insertionSort (ltOf cf) l.toArray 0 l.length).toList ∧ Below B w w' := by
  obtain ⟨g, cap, cur, rfl, hBg, hb, hc1, hc2, hc3, hc4⟩ := ho.blk h0
  have hlen : (l.flatMap T.f).length = l.length * T.k := ho.1
  have hH : HoldsK T.f T.k w g 0 l.toArray := by
    unfold HoldsK
    rw [flatK_flat hT.len]
    exact holds_row id hb (by rw [hlen, List.map_id]; exact hc4)
  have h := AnyQ.insertionSortCmpFunc L T.k aE zE T.f hT.len hT.one cf fn cb g 0 cap 0 l.length l.toArray w eg (fun q os dk _ x y => hcmp _ (belK hBg hB q os dk) x y) hH (blk_lt hb) (Nat.zero_le _) (by simp) (by simp; omega)
  have hsz : (insertionSort (ltOf cf) l.toArray 0 l.length).size = l.length := by
    have : ∀ (f i : Nat) (d : Array α), l.length - i = f → l.length ≤ d.size → (insOuter (ltOf cf) 0 l.length i d).size = d.size := by
      intro f
      induction f with
      | zero => intro i d hf _; rw [insOuter, if_neg (by omega)]
      | succ f ih =>
        intro i d hf hd
        rw [insOuter, if_pos (by omega)]
        have hk := (inner_keeps (ltOf cf) i d (by omega)).1
        rw [ih (i + 1) _ (by omega) (by omega), hk]
    unfold insertionSort
    rw [this _ 1 _ rfl (by simp)]
    simp
  simp only [List.size_toArray] at h
  generalize insertionSort (ltOf cf) l.toArray 0 l.length = d' at *
  refine h.mono ?_
  rintro e w' ⟨rfl, q, os, rfl⟩
  refine ⟨rfl, ?_, belK hBg hB q os d'⟩
  have hr := heap_resorted id (n := q) (os := os) (flatK T.f T.k d') hb
  have hl' : d'.toList.length = l.length := by simpa using hsz
  have hlen' : (d'.toList.flatMap T.f).length = l.length * T.k := by rw [flat_len hT.len, hl']
  rw [← hl']
  refine OwnR.of_blk hBg hr (by omega) hc2 (by simp [putCells, hc3]) ?_ (by rw [hlen', hl'])
  have e : flatK T.f T.k d' = (d'.toList.flatMap T.f).toArray := by rw [← flatK_flat hT.len]
  rw [e, hl', ← hlen']
  have := take_putCells' id cur (d'.toList.flatMap T.f) (by rw [hlen', hc3]; exact Nat.mul_le_mul_right _ hc1)
  rw [List.map_id] at this
  exact this
end
end Go.Proofs.YtbkglhakhahfpaaGreatDoor
namespace Go.Proofs.YtbkglhakhahfpaaGreatDoor
open Go.RowKit Go.Sort Go.Maps Go.Shelf Go.Lib

theorem pairSort_any (w : World) (B : Nat) (hB : B ≤ w.heap.size) (l : List (Bs × Int)) (v : Value) (ho : OwnR TPq w B v l) (hl : l.length ≤ 1000000) {m : Sm Int} (hm : Sm.Ok m) (hp : l.Perm m) :
    Calls Tryz.prog 194 #[v, .func (.func 195) #[] #[]] w fun e w' => e = .returned (.tuple #[]) ∧ OwnR TPq w' B v m ∧ Below B w w' := by
  by_cases h0 : l = []
  · subst h0
    obtain rfl : m = [] := List.Perm.nil_eq hp ▸ rfl
    obtain ⟨a, cap, rfl, _, _⟩ := ho.form
    exact (AnyF.slices_SortFunc_none Tryz.sortP a cap (.func (.func 195) #[] #[]) w).mono fun e w' ⟨he, hw⟩ => ⟨he, by rw [hw]; exact ho, by rw [hw]; exact Below.refl _ _⟩
  · refine (sortRow_any Tryz.sortP TPq.ok TPq.ok.one Tryz.isAgg50 Tryz.sizeOf50 cfP swoP 195 #[] (enters_of Tryz.func195 (by kernel_rfl) rfl) w B hB l v ho h0 hl (fun W _ x y => pairs1_any x y W)).mono ?_
    rintro e w' ⟨rfl, l', h1, h2, h3, h4⟩
    refine ⟨rfl, ?_, h4⟩
    rw [← sorted_eq hm (h1.trans hp) (h2.imp fun {a b} h => by rw [ltP] at h; exact h)]
    exact h3
/-- pairs gathered in any order are those of the map. -/
theorem all_gathered {m : Sm Int} (hm : Sm.Ok m) {acc : List (Bs × Int)} (hv : ∀ p ∈ acc, m.get p.1 = some p.2) (hn : (acc.map (·.1)).Nodup) (h : ∀ k, k ∈ acc.map (·.1) ↔ ∃ b, m.get k = some b) : acc.Perm m := by
  have e1 : acc = (acc.map (·.1)).map fun k => (k, (m.get k).getD 0) := by
    rw [List.map_map]
    conv => lhs; rw [← List.map_id acc]
    refine List.map_congr_left fun p hp => ?_
    simp only [Function.comp, hv p hp, Option.getD_some, id]
  have e2 : m = (m.keys).map fun k => (k, (m.get k).getD 0) := by
    unfold Sm.keys
    rw [List.map_map]
    conv => lhs; rw [← List.map_id m]
    refine List.map_congr_left fun p hp => ?_
    simp only [Function.comp, Sm.get_of_mem hm (show (p.1, p.2) ∈ m from hp), Option.getD_some, id]
  have hk : (acc.map (·.1)).Perm m.keys := (List.perm_ext_iff_of_nodup hn (Sm.keys_nodup hm)).2 fun k => by
    rw [h]
    constructor
    · rintro ⟨b, hb⟩; exact List.mem_map.2 ⟨(k, b), Sm.get_mem hb, rfl⟩
    · intro hk
      obtain ⟨p, hp, rfl⟩ := List.mem_map.1 hk
      exact ⟨p.2, Sm.get_of_mem hm hp⟩
  rw [e1]
  conv => rhs; rw [e2]
  exact hk.map _
theorem gatherA_none {m : Sm Int} : (([] : List (Bs × Int)).map (·.1)).Nodup ∧ ∀ k, k ∈ ([] : List (Bs × Int)).map (·.1) ↔ ∃ b, m.get k = some b ∧ Maps.has (DataW.map (smD TI m)) (.string k) = false := by
  have h := gather_none (m := m) (n := m) rfl (U := TI) (fun _ => true)
  simpa using h
theorem gatherA_step {m : Sm Int} {acc : List Bs} {left : Lit → Bool} {x : Bs} {b : Int} (h : acc.Nodup ∧ ∀ k, k ∈ acc ↔ ∃ b, m.get k = some b ∧ left (.string k) = false) (hx : left (.string x) = true) (hb : m.get x = some b) :
    (acc ++ [x]).Nodup ∧ ∀ k, k ∈ acc ++ [x] ↔ ∃ b, m.get k = some b ∧ (left (.string k) && !(Lit.string k).sameKey (.string x)) = false := by
  have := gather_step (q := fun _ => true) (acc := acc) (left := left) ⟨h.1, fun k => (h.2 k).trans ⟨fun ⟨b, h1, h2⟩ => ⟨b, h1, rfl, h2⟩, fun ⟨b, h1, _, h2⟩ => ⟨b, h1, h2⟩⟩⟩ hx hb
  rw [if_pos rfl] at this
  exact ⟨this.1, fun k => (this.2 k).trans ⟨fun ⟨b, h1, _, h2⟩ => ⟨b, h1, h2⟩, fun ⟨b, h1, h2⟩ => ⟨b, h1, rfl, h2⟩⟩⟩
set_option maxHeartbeats 4000000 in
set_option maxRecDepth 100000 in
theorem pairs_any (M : Nat) (m : Sm Int) (w : World) (hM : MapS TI w M m) (hT : TxW w) (hm : m.length ≤ 100000) (hv : ∀ p ∈ m, -1000000 ≤ p.2 ∧ p.2 ≤ 1000000) :
    Calls Tryz.prog 112 #[.map (some M)] w fun e w' => (∃ v, e = .returned v ∧ OwnR TPr w' w.heap.size v (m.map prOf)) ∧ Below w.heap.size w w' := by
  have hOk := hM.1
  have hO2 := hM.2
  have HT := Lib.hid hT
  have HM := Lib.hid hm
  have HV := Lib.hid hv
  have HOK := Lib.hid hOk
  clear hM hOk hT hm hv
  go_enter Tryz.func112, Tryz.ntmps112
  go_wp2_with (first
    | (at_range; refine wpList_range_own _ rfl _ 158 rfl 9 3 strKd Tryz.underlying158 _ M m.length (.map (smD TI m)) rfl hO2 ?_; intro w0 hrg0 hg0 hs0)
    | go_in)
  go_frame
  go_loopw [3] (fun ov wr => ∃ (acc : List (Bs × Int)) (left : Lit → Bool) (cnt : Nat), wr.ranges Tryz.prog 9 TI.R M w.heap.size m.length (.map (smD TI m)) left cnt ∧ OwnR TPq wr w.heap.size ov acc ∧ Hid (((acc.map (·.1)).Nodup ∧ ∀ k, k ∈ acc.map (·.1) ↔ ∃ b, m.get k = some b ∧ left (.string k) = false) ∧ ∀ p ∈ acc, m.get p.1 = some p.2) ∧ Below w.heap.size w wr ∧ w.heap.size < wr.heap.size) (fun _ wr => wr.rangeLeft M w.heap.size)
  case atStart => exact ⟨[], _, _, hrg0, OwnR.nil _ _, Lib.hid ⟨gatherA_none, fun p hp => by cases hp⟩, Gr.below_none hg0, by omega⟩
  case round =>
    obtain ⟨acc, left, cnt, hrg, hO, HA, hbr, hsz⟩ := hrel
    obtain ⟨oa, on, oc, rfl⟩ : ∃ a n c, u3 = .slice a n c := (by obtain ⟨a, c, h, _, _⟩ := hO.form; exact ⟨a, _, c, h⟩)
    have hfew : acc.length ≤ 100000 := by
      have := acc_few HA.out.1.1 fun k hk => by obtain ⟨b, h1, _⟩ := (HA.out.1.2 k).1 hk; exact ⟨b, h1⟩
      rw [List.length_map] at this
      exact Nat.le_trans this HM.out
    have HO := Lib.hid hO
    clear hO
    go_wp2_with (first
      | (at_next; refine next_sp TI.ok rfl _ rfl rfl hrg ?_ ?_)
      | go_in)
    · intro _ hl0
      have HP := Lib.hid (all_gathered HOK.out HA.out.2 HA.out.1.1 fun k => by rw [HA.out.1.2 k]; simp [hl0])
      have HS := Lib.hid (pairSort_any wr w.heap.size (by omega) acc _ HO.out (by omega) HOK.out HP.out)
      have HB := Lib.hid hbr
      go_wp2_with fail
      refine HS.out.mono ?_
      rintro e w2 ⟨rfl, hO2, hg2⟩
      have HF := Lib.hid (And.intro (own_pq.1 hO2) (Below.trans HB.out hg2))
      clear hO2 hg2
      go_wp2
      go_ret
      exact ⟨⟨_, rfl, HF.out.1⟩, HF.out.2⟩
    · intro x y w1 cnt1 hxl hlk hget hrg1 hlt hg1 hsz1 hen
      have hbr1 : Below w.heap.size w w1 := Below.trans hbr (Gr.below hg1 (Nat.le_refl _) (Nat.le_of_lt hsz))
      have HB1 := Lib.hid hbr1
      have HO1 : Hid (OwnR TPq w1 w.heap.size (.slice oa on oc) acc) := Lib.hid (HO.out.kept2 hg1 fun e => (range_off hrg HO.out).2 e.symm)
      have HST := Lib.hid (gatherA_step HA.out.1 hlk hget)
      have HGV := Lib.hid (fun p (hp : p ∈ acc ++ [(x, y)]) => show m.get p.1 = some p.2 by
        rcases List.mem_append.1 hp with hp | hp
        · exact HA.out.2 p hp
        · rw [List.mem_singleton.1 hp]; exact hget)
      have hyb := HV.out _ (Sm.get_mem hget)
      have HIT := Lib.hid (Itoa_any y w1 (HT.out.below hbr1) (by omega) (by omega))
      obtain ⟨ib, hib⟩ : ∃ x, x = itB y := ⟨_, rfl⟩
      have HIB := Lib.hid hib
      rw [show (⟨(Lib.itoa y).toArray⟩ : ByteArray) = ib from hib.symm] at HIT
      clear hget hib
      simp only [TI] at hen
      go_wp2_with fail
      refine HIT.out.mono ?_
      rintro e w2 ⟨rfl, hb2⟩
      have HF := Lib.hid (And.intro (HO1.out.below hb2) (Bl.trans HB1.out hb2))
      have hrg2 := hrg1.kept (Gr.of_below hb2 none) (by simp) (by simp)
      have hz2 := hb2.size
      clear hb2
      go_wp2_with (at_builtin; refine wp_app_rec TPq.ok rfl _ _ rfl w.heap.size _ acc rfl (HF.out.1.alloc _) w2.heap.size 1 (x, y) rfl (blk_new w2 _) (by rw [HIB.out]; rfl) (by omega) (by simp; omega) ?_)
      intro v3 w3 hO3 hg3 hb3
      have hA := hrg2.alloc (.cells #[.string (baOf x), .string ib] 50)
      have hof := range_off hA (HF.out.1.alloc (.cells #[.string (baOf x), .string ib] 50))
      have hrg3 := hA.kept hg3 hof.1 hof.2
      have HF3 := Lib.hid (And.intro hO3 (Below.trans (Bl.alloc HF.out.2 (.cells #[.string (baOf x), .string ib] 50)) hb3))
      have hz3 := hb3.size
      simp at hz3
      clear hO3 hg3 hb3 hof hA
      have HST2 : Hid ((((acc ++ [(x, y)]).map (·.1)).Nodup ∧ ∀ k, k ∈ (acc ++ [(x, y)]).map (·.1) ↔ ∃ b, m.get k = some b ∧ (left (.string k) && !(Lit.string k).sameKey (.string x)) = false) ∧ ∀ p ∈ acc ++ [(x, y)], m.get p.1 = some p.2) := Lib.hid ⟨by
        have h := HST.out
        rw [List.map_append]
        exact h, HGV.out⟩
      go_wp2
      go_roundw
      case rel => exact ⟨acc ++ [(x, y)], _, cnt1, hrg3, HF3.out.1, HST2, HF3.out.2, by omega⟩
      case measure => rw [hrg3.left_eq, hrg.left_eq]; exact hlt
end Go.Proofs.YtbkglhakhahfpaaGreatDoor
namespace Go.Proofs.YtbkglhakhahfpaaGreatDoor
open Go.RowKit Go.Sort

theorem neqPr_no (x1 x2 : _) (W : World) : (binOp .neq 50 (.agg #[.string x1, .string x2]) (.agg #[.string x1, .string x2])).run Tryz.prog W = .ok (.bool false) W := by
  go_simp
theorem neqPr_yes {x1 x2 y1 y2 : _} (hxy : ((x1, x2) : ByteArray × ByteArray) ≠ (y1, y2)) (W : World) : (binOp .neq 50 (.agg #[.string x1, .string x2]) (.agg #[.string y1, .string y2])).run Tryz.prog W = .ok (.bool true) W := by
  go_simp
  intro e1 e2
  first
    | (exact hxy (by subst e1; subst e2; rfl))
    | (have e1 := ba_inj e1; have e2 := ba_inj e2; exact hxy (by subst e1; subst e2; rfl))
set_option maxHeartbeats 4000000 in
set_option maxRecDepth 100000 in
theorem EqualPr_any (l m : List (ByteArray × ByteArray)) (v u : Value) (w : World) (hl : l.length ≤ 1000000) (hm : m.length ≤ 1000000) (rl : RecR TPr w 0 v l) (rm : RecR TPr w 0 u m) :
    Calls Tryz.prog 22 #[v, u] w fun e w' => e = .returned (.bool (decide (l = m))) ∧ Below w.heap.size w w' := by
  obtain ⟨a, ca, rfl, _, _⟩ := rl.form
  obtain ⟨b, cb, rfl, _, _⟩ := rm.form
  have RL := Lib.hid rl
  have RM := Lib.hid rm
  clear rl rm
  by_cases hlm : l.length = m.length
  · have HLM := Lib.hid hlm
    have hmk : ∀ k, k < l.length → k < m.length := fun k h => by omega
    rw [← hlm]
    clear hlm
    go_enter Tryz.func22, Tryz.ntmps22
    go_wp2_with fail
    go_loopw [13] (fun i wr => ∃ k : Nat, k ≤ l.length ∧ i = .int .i64 k ∧ Hid (l.take k = m.take k) ∧ Below w.heap.size w wr) (fun i _ => l.length - (intOf i).toNat)
    case atStart => exact ⟨0, Nat.zero_le _, rfl, Lib.hid (by simp), Below.refl _ _⟩
    case round =>
      obtain ⟨k, hk, rfl, hT, hB⟩ := hrel
      by_cases hlt : k < l.length
      · obtain ⟨x, hx⟩ : ∃ x, l[k]? = some x := ⟨_, List.getElem?_eq_getElem hlt⟩
        obtain ⟨y, hy⟩ : ∃ y, m[k]? = some y := ⟨_, List.getElem?_eq_getElem (hmk k hlt)⟩
        obtain ⟨b1, o1, rfl, _, _, hc1⟩ := (RL.out.below hB).at TPr.ok.len hx TPr.ok.pos
        obtain ⟨b2, o2, rfl, _, _, hc2⟩ := (RM.out.below hB).at TPr.ok.len hy TPr.ok.pos
        have HX := Lib.hid hx
        have HY := Lib.hid hy
        obtain ⟨x1, x2⟩ := x
        obtain ⟨y1, y2⟩ := y
        have cx0 : wr.cell? ⟨b1, o1 + k * 2, none⟩ = some (.string x1) := hc1 0 _ rfl
        have cx1 : wr.cell? ⟨b1, o1 + k * 2 + 1, none⟩ = some (.string x2) := hc1 1 _ rfl
        have cy0 : wr.cell? ⟨b2, o2 + k * 2, none⟩ = some (.string y1) := hc2 0 _ rfl
        have cy1 : wr.cell? ⟨b2, o2 + k * 2 + 1, none⟩ = some (.string y2) := hc2 1 _ rfl
        have hw1 : IntKind.i64.wrap ((k : Int) + 1) = ((k + 1 : Nat) : Int) := by rw [IntWalk.i64_in _ (by omega)]; omega
        clear hc1 hc2 hx hy
        by_cases hxy : ((x1, x2) : ByteArray × ByteArray) = (y1, y2)
        · have HT2 : Hid (l.take (k + 1) = m.take (k + 1)) := Lib.hid (by rw [List.take_add_one, List.take_add_one, hT.out, HX.out, HY.out, hxy])
          obtain ⟨e1, hxy⟩ := Prod.mk.inj hxy
          have e2 := hxy
          clear hxy
          subst e1; subst e2
          have hne := neqPr_no x1 x2
          go_wp2_with fail
          go_region
          all_goals (
            go_wp2
            go_roundw
            case rel => exact ⟨k + 1, by omega, by go_num, HT2, Below.drew hB⟩
            case measure => simp [intOf]; omega)
        · have HR : Hid (decide (l = m) = false) := Lib.hid (by
            rw [decide_eq_false_iff_not]
            rintro rfl
            have := HX.out.symm.trans HY.out
            injection this with this
            exact hxy this)
          have hne := neqPr_yes hxy
          clear hxy
          go_wp2_with fail
          go_region
          all_goals (
            go_wp2
            go_ret
            exact ⟨ret_bool HR.out.symm, Below.drew hB⟩)
      · obtain rfl : k = l.length := by omega
        have HR : Hid (decide (l = m) = true) := Lib.hid (by
          rw [decide_eq_true_eq]
          have := hT.out
          rw [List.take_length, HLM.out, List.take_length] at this
          exact this)
        go_wp2
        go_ret
        exact ⟨ret_bool HR.out.symm, hB⟩
  · have hi : ¬ ((l.length : Nat) : Int) = ((m.length : Nat) : Int) := by omega
    have HR : Hid (decide (l = m) = false) := Lib.hid (by
      rw [decide_eq_false_iff_not]
      intro h
      exact hlm (congrArg List.length h))
    go_enter Tryz.func22, Tryz.ntmps22
    go_wp2
    go_ret
    exact ⟨ret_bool HR.out.symm, Below.refl _ _⟩
end Go.Proofs.YtbkglhakhahfpaaGreatDoor
namespace Go.Proofs.YtbkglhakhahfpaaGreatDoor
open Go.RowKit Go.Sort Go.Maps

theorem Sm.Ok.filter {α : Type} {m : Sm α} (h : Sm.Ok m) (p : Bs × α → Bool) : Sm.Ok (m.filter p) := List.Pairwise.filter _ h
theorem lpL_ok {m : Sm Bd0} (h : Sm.Ok m) : Sm.Ok (lpL m) := Sm.Ok.filter (Sm.Ok.mapv h) _
theorem Sm.get_filter {α : Type} {m : Sm α} (h : Sm.Ok m) (p : α → Bool) (k : Bs) : Sm.get (m.filter fun q => p q.2) k = (m.get k).filter p := by
  cases hg : m.get k with
  | none =>
    have h0 := Sm.get_none hg
    exact (Sm.get_none_of fun q hq => h0 q (List.mem_filter.1 hq).1)
  | some x =>
    have hm := Sm.get_mem hg
    by_cases hp : p x = true
    · rw [Sm.get_of_mem (Sm.Ok.filter h _) (List.mem_filter.2 ⟨hm, hp⟩)]
      simp [Option.filter, hp]
    · have : Sm.get (m.filter fun q => p q.2) k = none := by
        refine Sm.get_none_of fun q hq e => ?_
        obtain ⟨h1, h2⟩ := List.mem_filter.1 hq
        have h3 := Sm.get_of_mem h (k := k) (v := q.2) (by rw [← e]; exact h1)
        rw [hg] at h3
        injection h3 with h3
        rw [h3] at hp
        exact hp h2
      rw [this]
      simp [Option.filter, hp]
theorem lpL_get {m : Sm Bd0} (h : Sm.Ok m) (k : Bs) : (lpL m).get k = ((m.get k).map (·.lp)).filter fun n => decide (0 < n) := by
  unfold lpL
  rw [Sm.get_filter (Sm.Ok.mapv h) (fun n => decide (0 < n)), Sm.get_mapv]
/-- whether a step repairs a board entirely. -/
def fully (rh rr : Int) (m : Sm Bd0) (s : Stp) : Bool := decide (((m.get s.bd.data.toList).getD newB).st = 3) && decide ((((doS rh rr m s).1.get s.bd.data.toList).getD newB).st = 2)
theorem doB_lp {rh rr : Int} {b : Bd0} {s : Stp} (hr : refB rh rr b s = 0) (hk : 1 ≤ s.kd ∧ s.kd ≤ 6) : (doB b s).lp = b.lp + if b.st = 3 ∧ (doB b s).st = 2 then 1 else 0 := by
  have hst : ∀ (c : Bd0) (x a : Int), (Bd0.become c x a).lp = c.lp ∧ (Bd0.become c x a).st = x := fun _ _ _ => ⟨rfl, rfl⟩
  unfold refB at hr
  unfold doB
  by_cases h1 : s.kd = 1
  · rw [if_pos h1] at hr ⊢
    rw [(hst _ _ _).1, (hst _ _ _).2]
    have : ¬ b.st = 3 := by
      intro e
      rw [if_pos ⟨by omega, by omega⟩] at hr
      omega
    rw [if_neg (fun e => this e.1)]; simp
  rw [if_neg h1] at hr ⊢
  by_cases h2 : s.kd = 2
  · rw [if_pos h2]
    rw [(hst _ _ _).1, (hst _ _ _).2, if_neg (by omega)]; simp
  rw [if_neg h2] at hr ⊢
  by_cases h3 : s.kd = 3
  · rw [if_pos h3]
    rw [(hst _ _ _).1, (hst _ _ _).2, if_neg (by omega)]; simp
  rw [if_neg h3] at hr ⊢
  by_cases h4 : s.kd = 4
  · rw [if_pos h4] at hr ⊢
    have e3 : b.st = 3 := by
      apply Classical.byContradiction
      intro e
      rw [if_pos e] at hr
      omega
    split
    · rw [(hst _ _ _).1, (hst _ _ _).2, if_pos ⟨e3, rfl⟩]
    · rw [if_neg (by simp only; omega)]; simp
  rw [if_neg h4] at hr ⊢
  by_cases h5 : s.kd = 5
  · rw [if_pos h5]
    rw [(hst _ _ _).1, (hst _ _ _).2, if_neg (by omega)]; simp
  rw [if_neg h5] at hr ⊢
  have h6 : s.kd = 6 := by omega
  rw [if_pos h6]
  rw [(hst _ _ _).1, (hst _ _ _).2, if_neg (by omega)]; simp
theorem lpL_step {rh rr : Int} {m : Sm Bd0} (hm : Sm.Ok m) {s : Stp} (hk : 1 ≤ s.kd ∧ s.kd ≤ 6) (h0 : ∀ p ∈ m, 0 ≤ p.2.lp) : lpL (doS rh rr m s).1 = if fully rh rr m s = true then (lpL m).put s.bd.data.toList (((lpL m).get s.bd.data.toList).getD 0 + 1) else lpL m := by
  obtain ⟨b, hb⟩ : ∃ b, b = (m.get s.bd.data.toList).getD newB := ⟨_, rfl⟩
  have hb0 : 0 ≤ b.lp := by
    rw [hb]
    cases hg : m.get s.bd.data.toList with
    | none => exact Int.le_refl _
    | some x => exact h0 _ (Sm.get_mem hg)
  have hbg : ((lpL m).get s.bd.data.toList).getD 0 = b.lp := by
    rw [lpL_get hm, hb]
    cases hg : m.get s.bd.data.toList with
    | none => rfl
    | some x =>
      have := h0 _ (Sm.get_mem hg)
      simp only [Option.map_some, Option.filter, Option.getD_some]
      split
      · rfl
      · rename_i h; simp at h; simp only at this; simp; omega
  have hdo : ∃ b', (doS rh rr m s).1 = m.put s.bd.data.toList b' ∧ b'.lp = b.lp + if b.st = 3 ∧ b'.st = 2 then 1 else 0 := by
    by_cases hr : refB rh rr b s = 0
    · exact ⟨_, by rw [doS_zero hb.symm hr], doB_lp hr hk⟩
    · exact ⟨b, by rw [doS_ref hb.symm hr], by rw [if_neg (by omega)]; simp⟩
  obtain ⟨b', hd, hlp⟩ := hdo
  have hful : fully rh rr m s = decide (b.st = 3 ∧ b'.st = 2) := by
    unfold fully
    rw [hd, Sm.get_put_same, ← hb]
    simp
  rw [hful, hd, hbg]
  have hput : ∀ j, s.bd.data.toList ≠ j → (lpL (m.put s.bd.data.toList b')).get j = (lpL m).get j := fun j hj => by
    rw [lpL_get (hm.put _ _), lpL_get hm, Sm.get_put_other hj]
  by_cases hc : b.st = 3 ∧ b'.st = 2
  · rw [if_pos (by simpa using hc)]
    rw [if_pos hc] at hlp
    refine Sm.ext (lpL_ok (hm.put _ _)) ((lpL_ok hm).put _ _) fun j => ?_
    by_cases hj : s.bd.data.toList = j
    · subst hj
      rw [lpL_get (hm.put _ _), Sm.get_put_same, Sm.get_put_same]
      have : 0 < b'.lp := by omega
      simp [Option.filter, hlp]
      omega
    · rw [hput j hj, Sm.get_put_other hj]
  · rw [if_neg (by simpa using hc)]
    rw [if_neg hc] at hlp
    refine Sm.ext (lpL_ok (hm.put _ _)) (lpL_ok hm) fun j => ?_
    by_cases hj : s.bd.data.toList = j
    · subst hj
      have e : b'.lp = b.lp := by omega
      rw [lpL_get (hm.put _ _), Sm.get_put_same, lpL_get hm]
      cases hg : m.get s.bd.data.toList with
      | none =>
        rw [hg] at hb
        have : b'.lp = 0 := by rw [e, hb]; rfl
        simp [Option.filter, this]
      | some x =>
        rw [hg] at hb
        have : b'.lp = x.lp := by rw [e, hb]; rfl
        simp [this]
    · exact hput j hj
/-- the reference's shop, and the map of counts in the block M; the block behind that map holds a step. -/
structure LoQ (rh rr : Int) (S M : Nat) (m : Sm Bd0) (cm : Sm Int) (wr : World) : Prop where
  shop : ∃ L, ShR wr S rh rr L ∧ L.mapv (·.2) = m
  map : MapS TI wr M cm
  xb : ∃ cur, wr.heap[M + 1]? = some (.cells cur 133 (0, 0))
  SM : S < M
section
variable {rh rr : Int} {S M : Nat} {m : Sm Bd0} {cm : Sm Int} {wr : World}
theorem LoQ.ok (h : LoQ rh rr S M m cm wr) : Sm.Ok m := by
  obtain ⟨L, h1, h2⟩ := h.shop
  rw [← h2]; exact h1.ok.mapv
theorem LoQ.two (h : LoQ rh rr S M m cm wr) : 2 ≤ S := by
  obtain ⟨L, h1, h2⟩ := h.shop
  exact h1.two
theorem LoQ.below {w' : World} (h : LoQ rh rr S M m cm wr) (hb : Below wr.heap.size wr w') : LoQ rh rr S M m cm w' := by
  obtain ⟨L, h1, h2⟩ := h.shop
  obtain ⟨cur, h3⟩ := h.xb
  exact ⟨⟨L, h1.below hb, h2⟩, h.map.below hb, ⟨cur, blk_below h3 hb⟩, h.SM⟩
theorem LoQ.no (h : LoQ rh rr S M m cm wr) {L : Sm BdM} (hL : ShR wr S rh rr L) : ¬ DoR S L M := by
  obtain ⟨cur, hx⟩ := h.xb
  obtain ⟨_, es, clock, hm, _⟩ := h.map
  have h2 := hL.two
  have hSM := h.SM
  rintro (e | ⟨p, hp, e⟩)
  · omega
  · have hB := (hL.brd p hp).2
    obtain ⟨h1, _, _, v, hb, _⟩ := hB
    rcases e with e | e
    · rw [← e, hm] at hb
      injection hb with hb
      cases hb
    · have : p.2.1 = M + 1 := by omega
      rw [this, hx] at hb
      injection hb with hb
      injection hb with _ hb _
      exact absurd hb (by decide)
theorem LoQ.board (h : LoQ rh rr S M m cm wr) (ky : ByteArray) (hk : ky.size ≤ maxLen) (hm : m.length ≤ 200000) :
    Calls Tryz.prog 110 #[.pointer (some ⟨S, 0, none⟩), .string ky] wr fun e w' => ∃ g : Nat, e = .returned (.pointer (some ⟨g, 0, none⟩)) ∧ w'.cell? ⟨g, 0, none⟩ = some (.int .i64 ((m.get ky.data.toList).getD newB).st) ∧ g < w'.heap.size ∧ LoQ rh rr S M (m.put ky.data.toList ((m.get ky.data.toList).getD newB)) cm w' ∧ Kp wr w' (fun i => i = S - 1) := by
  obtain ⟨L, h1, h2⟩ := h.shop
  have hSM := h.SM
  have htwo := h1.two
  refine (RBoard_any S rh rr L ky wr h1 hk (by rw [← Sm.len_mapv (·.2) L, h2]; exact hm)).mono ?_
  rintro e w' ⟨g, b, rfl, h3, h4⟩
  have hget : b = (m.get ky.data.toList).getD newB := by
    rw [← h2, Sm.get_mapv]
    rcases h4 with ⟨h4, _⟩ | ⟨h4, h5, _⟩
    · rw [h4]; rfl
    · rw [h4, h5]; rfl
  have hK : Kp wr w' (fun i => i = S - 1) := by
    rcases h4 with ⟨_, rfl⟩ | ⟨_, _, _, h6⟩
    · exact Kp.refl _ _
    · exact h6
  obtain ⟨cur, hx⟩ := h.xb
  have hB := (h3.brd (ky.data.toList, (g, b)) (Sm.get_mem (Sm.get_put_same _ _ _))).2
  obtain ⟨_, _, _, v, hb, _⟩ := hB
  refine ⟨g, rfl, by rw [← hget]; exact blk_cell hb 0, blk_lt hb, ⟨⟨_, h3, by rw [Sm.put_mapv, h2, hget]⟩, hK.ms h.map (by omega), ⟨cur, hK.blk hx (by omega)⟩, h.SM⟩, hK⟩
theorem LoQ.do (h : LoQ rh rr S M m cm wr) (s : Stp) (hbd : s.bd.size ≤ 1000) (hco : s.co.size ≤ 1000) (hkd : 1 ≤ s.kd ∧ s.kd ≤ 6) (hL : AllSm m 100000) (hst : StI m) :
    Calls Tryz.prog 111 #[.pointer (some ⟨S, 0, none⟩), stpV s] wr fun e w' => ∃ e0, e = .returned (.int .i64 e0) ∧ LoQ rh rr S M (doS rh rr m s).1 cm w' ∧ Below (S - 1) wr w' ∧ ∀ (xb : Nat) (cur : Array Value), wr.heap[xb]? = some (Obj.cells cur 133 (0, 0)) → w'.heap[xb]? = some (Obj.cells cur 133 (0, 0)) := by
  obtain ⟨L, h1, h2⟩ := h.shop
  have hst' : ∀ p ∈ L, 1 ≤ p.2.2.st ∧ p.2.2.st ≤ 6 := fun p hp => hst (p.1, p.2.2) (by rw [← h2]; exact List.mem_map_of_mem hp)
  have hno := h.no h1
  refine (RDo_any S rh rr L s wr h1 hbd hco hkd (by rw [h2]; exact hL) hst').mono ?_
  rintro e w' ⟨rfl, L', h3, h4, hK⟩
  obtain ⟨cur, hx⟩ := h.xb
  have hkx : ∀ (xb : Nat) (cur : Array Value), wr.heap[xb]? = some (Obj.cells cur 133 (0, 0)) → w'.heap[xb]? = some (Obj.cells cur 133 (0, 0)) := fun xb cur hx => hK.blk hx (h1.doT (T := TSt) (by decide) xb cur hx)
  exact ⟨_, rfl, ⟨⟨L', h3, by rw [h4, h2]⟩, hK.ms h.map hno, ⟨cur, hkx _ _ hx⟩, h.SM⟩, DoR.below h1 hK, hkx⟩
end
theorem doS_same {rh rr : Int} {m : Sm Bd0} (hm : Sm.Ok m) (s : Stp) : doS rh rr (m.put s.bd.data.toList ((m.get s.bd.data.toList).getD newB)) s = doS rh rr m s := by
  unfold doS
  rw [Sm.get_put_same, Option.getD_some, Sm.put_put hm, Sm.put_put hm]
theorem ShR.keepN {w w' : World} {S : Nat} {rh rr : Int} {L : Sm BdM} {X : Nat → Prop} (h : ShR w S rh rr L) (hk : Kp w w' X) (hn : NoStr w X) (hS : ¬ X S) (hX : ∀ i, X i → ¬ DoR S L i) : ShR w' S rh rr L :=
  ⟨h.two, hk.blk h.blk hS, hk.ms h.map fun hx => hX _ hx (.inl rfl), h.ok, fun p hp => ⟨(h.brd p hp).1, (h.brd p hp).2.keep hk hn (fun hx => hX _ hx (.inr ⟨p, hp, .inr rfl⟩)) fun hx => hX _ hx (.inr ⟨p, hp, .inl rfl⟩)⟩, h.sep⟩
theorem LoQ.count {rh rr : Int} {S M : Nat} {m : Sm Bd0} {cm cm' : Sm Int} {wr w' : World} (h : LoQ rh rr S M m cm wr) (hm : MapS TI w' M cm') (hg : wr.grownBy w' (some M)) : LoQ rh rr S M m cm' w' := by
  obtain ⟨L, h1, h2⟩ := h.shop
  obtain ⟨cur, hx⟩ := h.xb
  have hK : Kp wr w' (fun i => i = M) := Kp.of_gr hg rfl
  obtain ⟨_, es, clock, hmm, _⟩ := h.map
  refine ⟨⟨L, h1.keepN hK (fun i cur hi e => ?_) (by have := h.SM; omega) (fun i hi => by subst hi; exact h.no h1), h2⟩, hm, ⟨cur, hK.blk hx (by omega)⟩, h.SM⟩
  subst e
  rw [hmm] at hi
  injection hi with hi
  cases hi
/-- at the loop's head: no step lies there yet, or one lies behind the map. -/
def LoP (rh rr : Int) (S M : Nat) (m : Sm Bd0) (cm : Sm Int) (wr : World) : Prop := LoQ rh rr S M m cm wr ∨ (wr.heap.size = M + 1 ∧ (∃ L, ShR wr S rh rr L ∧ L.mapv (·.2) = m) ∧ MapS TI wr M cm ∧ S < M)
theorem LoP.alloc {rh rr : Int} {S M : Nat} {m : Sm Bd0} {cm : Sm Int} {wr : World} (h : LoP rh rr S M m cm wr) (cur : Array Value) : LoQ rh rr S M m cm (wr.alloc (.cells cur 133)) := by
  have hb := Bl.alloc (Below.refl wr.heap.size wr) (.cells cur 133)
  rcases h with h | ⟨h1, ⟨L, h2, h3⟩, h4, h5⟩
  · exact h.below hb
  · exact ⟨⟨L, h2.below hb, h3⟩, h4.below hb, ⟨cur, by rw [← h1]; exact blk_new wr _⟩, h5⟩
theorem LoP.map {rh rr : Int} {S M : Nat} {m : Sm Bd0} {cm : Sm Int} {wr : World} (h : LoP rh rr S M m cm wr) : MapS TI wr M cm := by
  rcases h with h | ⟨_, _, h, _⟩
  · exact h.map
  · exact h
/-- what the reference's loop keeps. -/
structure LoI (rh rr : Int) (l : List Stp) (w0 : World) (S M k : Nat) (m : Sm Bd0) (wr : World) : Prop where
  rest : runS rh rr 345686400000 [] l = runS rh rr 345686400000 m (l.drop k)
  sm : AllSm m k
  st : StI m
  ok : Sm.Ok m
  p : LoP rh rr S M m (lpL m) wr
  bel : Below w0.heap.size w0 wr
  S1 : w0.heap.size ≤ S - 1
theorem LoI.next {rh rr : Int} {l : List Stp} {w0 : World} {S M k : Nat} {m : Sm Bd0} {wr w' : World} (h : LoI rh rr l w0 S M k m wr) {s : Stp} (hs : l[k]? = some s) (h1 : ¬ 345686400000 < s.at) (hq : LoQ rh rr S M (doS rh rr m s).1 (lpL (doS rh rr m s).1) w') (hb : Below w0.heap.size wr w') : LoI rh rr l w0 S M (k + 1) (doS rh rr m s).1 w' :=
  ⟨h.rest.trans (runS_go hs h1), doS_small h.sm s, h.st.doS rh rr s, doS_ok h.ok s, .inl hq, h.bel.trans hb, h.S1⟩
theorem AllSm.same {m : Sm Bd0} {n : Nat} (h : AllSm m n) (k : Bs) : AllSm (m.put k ((m.get k).getD newB)) (n + 1) := by
  refine ⟨Nat.le_trans (Sm.put_le _ _ _) (Nat.succ_le_succ h.1), fun p hp => ?_⟩
  rcases Sm.put_mem.1 hp with rfl | ⟨hp, _⟩
  · exact (h.get k).mono (Nat.le_succ _)
  · exact (h.2 p hp).mono (Nat.le_succ _)
theorem StI.same {m : Sm Bd0} (h : StI m) (k : Bs) : StI (m.put k ((m.get k).getD newB)) := fun p hp => by
  rcases Sm.put_mem.1 hp with rfl | ⟨hp, _⟩
  · cases hg : m.get k with
    | none => exact ⟨Int.le_refl _, by show (1 : Int) ≤ 6; decide⟩
    | some x => exact h _ (Sm.get_mem hg)
  · exact h p hp
theorem doS_has {rh rr : Int} {m : Sm Bd0} (hm : Sm.Ok m) (s : Stp) : (doS rh rr m s).1.put s.bd.data.toList (((doS rh rr m s).1.get s.bd.data.toList).getD newB) = (doS rh rr m s).1 := by
  obtain ⟨b', h, _⟩ := doS_put rh rr m s
  rw [h, Sm.get_put_same, Option.getD_some, Sm.put_put hm]
set_option maxHeartbeats 4000000 in
set_option maxRecDepth 100000 in
theorem RLoopsOf_any (rh rr : Int) (l : List Stp) (v : Value) (w : World) (hT : TxW w) (rl : RecR TSt w 0 v l) (hl : stepsF l = 0) :
    Calls Tryz.prog 20 #[.agg #[.int .i64 rh, .int .i64 rr], v] w fun e w' => (∃ v', e = .returned v' ∧ OwnR TPr w' w.heap.size v' ((lpL (runS rh rr 345686400000 [] l)).map prOf)) ∧ Below w.heap.size w w' := by
  have hA := Bl.alloc (Below.refl w.heap.size w) (.cells #[.int .i64 rh, .int .i64 rr] 27)
  obtain ⟨a, cap, rfl, _, _⟩ := rl.form
  have RL := Lib.hid rl
  have HT := Lib.hid hT
  have HR := Lib.hid (stepsF_right hl)
  have HW := Lib.hid (stepsF_W hl)
  clear rl hl hT
  have hmm := @run_makeMap Tryz.prog
  go_enter Tryz.func20, Tryz.ntmps20
  go_wp2_with fail
  refine (RNewShop_any rh rr _).mono ?_
  rintro e w2 ⟨rfl, hS2, hb2⟩
  have hB2 := Bl.trans hA hb2
  have hzA := hA.size
  obtain ⟨S, hS⟩ : ∃ S, S = (w.alloc (.cells #[.int .i64 rh, .int .i64 rr] 27)).heap.size + 1 + 1 := ⟨_, rfl⟩
  rw [← hS] at hS2 ⊢
  obtain ⟨M, hM⟩ : ∃ M, M = w2.heap.size := ⟨_, rfl⟩
  have HI0 : Hid (LoI rh rr l w S M 0 [] (w2.alloc (.map #[] 0))) := Lib.hid (by
    refine ⟨rfl, ⟨Nat.le_refl _, fun p hp => by simp at hp⟩, fun p hp => by simp at hp, Sm.Ok.nil, .inr ⟨by rw [hM]; simp, ⟨[], hS2.below (Bl.alloc (Below.refl _ _) _), rfl⟩, ?_, by have := hS2.lt; omega⟩, Bl.alloc hB2 _, by omega⟩
    rw [hM]
    exact MapS.of_blk (blk_new w2 _))
  clear hS2 hb2 hB2 hA hzA hS
  go_wp2_with fail
  rw [← hM]
  clear hmm hM
  go_loopw [15] (fun i wr => ∃ (k : Nat) (m : Sm Bd0), k ≤ l.length ∧ i = .int .i64 k ∧ Hid (LoI rh rr l w S M k m wr)) (fun i _ => l.length - (intOf i).toNat)
  case atStart => exact ⟨0, [], Nat.zero_le _, rfl, HI0⟩
  case round =>
    obtain ⟨k, m, hk, rfl, HI⟩ := hrel
    by_cases hlt : k < l.length
    · obtain ⟨s, hs⟩ : ∃ x, l[k]? = some x := ⟨_, List.getElem?_eq_getElem hlt⟩
      obtain ⟨b1, o1, rfl, _, hbb1, hc1⟩ := (RL.out.below HI.out.bel).at TSt.ok.len hs TSt.ok.pos
      have HS := Lib.hid hs
      have HSR := Lib.hid (HR.out.2.1 s (List.mem_of_getElem? hs))
      have HKD := Lib.hid (HW.out s (List.mem_of_getElem? hs)).kd
      obtain ⟨at1, bs, kd, cs⟩ := s
      have c0 : wr.cell? ⟨b1, o1 + k * 4, none⟩ = some (.int .i64 at1) := hc1 0 _ rfl
      have c1 : wr.cell? ⟨b1, o1 + k * 4 + 1, none⟩ = some (.string bs) := hc1 1 _ rfl
      have c2 : wr.cell? ⟨b1, o1 + k * 4 + 2, none⟩ = some (.int .i64 kd) := hc1 2 _ rfl
      have c3 : wr.cell? ⟨b1, o1 + k * 4 + 3, none⟩ = some (.string cs) := hc1 3 _ rfl
      clear hs hc1
      have hlen : k < 5000 := Nat.lt_of_lt_of_le hlt HR.out.1
      have hw1 : IntKind.i64.wrap ((k : Int) + 1) = ((k + 1 : Nat) : Int) := by rw [IntWalk.i64_in _ (by omega)]; omega
      have hbs : bs.size ≤ 40 := HSR.out.bd
      have hcs : cs.size ≤ 40 := HSR.out.co
      have HAT : Hid (¬ 345686400000 < Stp.at (at1, bs, kd, cs)) := Lib.hid (by have := HSR.out.a1; omega)
      have HX1 := Lib.hid (blk_new wr (.cells #[.int .i64 at1, .string bs, .int .i64 kd, .string cs] 133))
      have hQ := HI.out.p.alloc #[.int .i64 at1, .string bs, .int .i64 kd, .string cs]
      have hml := HI.out.sm.1
      have hbA := Bl.alloc (Below.refl wr.heap.size wr) (.cells #[.int .i64 at1, .string bs, .int .i64 kd, .string cs] 133)
      have HBD := Lib.hid (hQ.board bs (by unfold maxLen; omega) (by omega))
      have hbr : w.heap.size ≤ wr.heap.size := HI.out.bel.size
      have hS1 := HI.out.S1
      have hStwo := hQ.two
      have hSM := hQ.SM
      have hMr := HI.out.p.map.lt
      have HBA := Lib.hid hbA
      obtain ⟨b, hb⟩ : ∃ b, b = (m.get bs.data.toList).getD newB := ⟨_, rfl⟩
      rw [← hb] at HBD
      have HB := Lib.hid hb
      clear hQ hbA hb
      go_wp2_with fail
      refine HBD.out.mono ?_
      rintro e w3 ⟨g, rfl, dg, lg, hQ3, hK3⟩
      have hX3 := hK3.blk HX1.out (by omega)
      have hB3 : Below w.heap.size wr w3 := (HBA.out.mono hbr).trans (hK3.below (fun i _ hi => by omega) (by simp; omega))
      have x0 : w3.cell? ⟨wr.heap.size, 0, none⟩ = some (.int .i64 at1) := blk_cell hX3 0
      have x1 : w3.cell? ⟨wr.heap.size, 1, none⟩ = some (.string bs) := blk_cell hX3 1
      have x2 : w3.cell? ⟨wr.heap.size, 2, none⟩ = some (.int .i64 kd) := blk_cell hX3 2
      have x3 : w3.cell? ⟨wr.heap.size, 3, none⟩ = some (.string cs) := blk_cell hX3 3
      have lx3 := blk_lt hX3
      have HBS : Hid (b = (m.get (Stp.bd (at1, bs, kd, cs)).data.toList).getD newB) := HB
      have HD := Lib.hid (hQ3.do (at1, bs, kd, cs) (by show bs.size ≤ 1000; omega) (by show cs.size ≤ 1000; omega) HKD.out (by
        rw [HB.out]
        have h := HI.out.sm.same bs.data.toList
        exact ⟨Nat.le_trans h.1 (by omega), fun p hp => (h.2 p hp).mono (by omega)⟩) (by rw [HB.out]; exact HI.out.st.same _))
      rw [show doS rh rr (m.put bs.data.toList b) (at1, bs, kd, cs) = doS rh rr m (at1, bs, kd, cs) by rw [HB.out]; exact doS_same HI.out.ok (at1, bs, kd, cs)] at HD
      have HB3 := Lib.hid hB3
      have HX3 := Lib.hid hX3
      have hz3 := hB3.size
      clear hQ3 hK3 hB3 hX3 HBD
      go_wp2_with fail
      refine HD.out.mono ?_
      rintro e w4 ⟨e0, rfl, hQ4, hb4, hbox⟩
      have hX4 := hbox _ _ HX3.out
      have y1 : w4.cell? ⟨wr.heap.size, 1, none⟩ = some (.string bs) := blk_cell hX4 1
      have lx4 := blk_lt hX4
      have hm4 := (doS_small HI.out.sm (rh := rh) (rr := rr) (at1, bs, kd, cs)).1
      have HBD4 := Lib.hid (hQ4.board bs (by unfold maxLen; omega) (by omega))
      rw [show ((doS rh rr m (at1, bs, kd, cs)).1.put bs.data.toList (((doS rh rr m (at1, bs, kd, cs)).1.get bs.data.toList).getD newB)) = (doS rh rr m (at1, bs, kd, cs)).1 from doS_has HI.out.ok (at1, bs, kd, cs)] at HBD4
      have hB4 : Below w.heap.size wr w4 := HB3.out.trans (hb4.mono hS1)
      have HF := Lib.hid (lpL_step (rh := rh) (rr := rr) HI.out.ok (s := (at1, bs, kd, cs)) HKD.out (fun p hp => (HI.out.sm.2 p hp).2.2.1))
      have HFD : Hid (fully rh rr m (at1, bs, kd, cs) = (decide (b.st = 3) && decide ((((doS rh rr m (at1, bs, kd, cs)).1.get bs.data.toList).getD newB).st = 2))) := Lib.hid (by unfold fully; rw [HB.out])
      have HB4 := Lib.hid hB4
      have HX4 := Lib.hid hX4
      have HQ4 := Lib.hid hQ4
      clear hB4 hX4 hb4 hbox HD hQ4
      by_cases h3 : b.st = 3
      · have e3 : (b.st == 3) = true := by simpa using h3
        go_wp2_with fail
        refine HBD4.out.mono ?_
        rintro e w5 ⟨g2, rfl, dg2, lg2, hQ5, hK5⟩
        have hX5 := hK5.blk HX4.out (by omega)
        have hB5 : Below w.heap.size wr w5 := HB4.out.trans (hK5.below (fun i _ hi => by omega) (by have := HB4.out.size; omega))
        have z1 : w5.cell? ⟨wr.heap.size, 1, none⟩ = some (.string bs) := blk_cell hX5 1
        have lx5 := blk_lt hX5
        obtain ⟨b2, hb2⟩ : ∃ b2, b2 = ((doS rh rr m (at1, bs, kd, cs)).1.get bs.data.toList).getD newB := ⟨_, rfl⟩
        rw [← hb2] at dg2
        have HB2 := Lib.hid hb2
        clear hb2
        by_cases h2 : b2.st = 2
        · have e2 : (b2.st == 2) = true := by simpa using h2
          have hful : fully rh rr m (at1, bs, kd, cs) = true := by rw [HFD.out, ← HB2.out, decide_eq_true h3, decide_eq_true h2]; rfl
          have hN := HF.out
          rw [if_pos hful] at hN
          have hbm : bs.size ≤ maxLen := by unfold maxLen; omega
          have hlk := hQ5.map.look TI.ok bs hbm
          have hln := lpL_len m
          obtain ⟨x, hx⟩ : ∃ x, x = ((lpL m).get bs.data.toList).getD 0 := ⟨_, rfl⟩
          rw [show ((lpL m).get bs.data.toList).getD TI.z = x from hx.symm] at hlk
          obtain ⟨w6, hrun6, hM6, ht6⟩ := hQ5.map.put TI.ok bs hbm (x + 1) (by unfold maxLen; omega)
          have hg6 := ht6.grown
          have hQ6 := hQ5.count hM6 hg6
          have HN := Lib.hid (HI.out.next HS.out (Int.not_lt.2 HAT.out) (w' := w6) (by rw [hN, ← hx]; exact hQ6) (hB5.trans (Turned.below ht6 (by omega) (by have := hB5.size; omega))))
          have hxb : 0 ≤ x ∧ x ≤ 100000 := by
            rw [hx, lpL_get HI.out.ok]
            cases hg : m.get bs.data.toList with
            | none => exact ⟨Int.le_refl _, by show (0 : Int) ≤ _; decide⟩
            | some y =>
              have hy := HI.out.sm.2 _ (Sm.get_mem hg)
              have h0 : 0 ≤ y.lp := hy.2.2.1
              have h1 : y.lp ≤ (k : Int) := hy.2.2.2.1
              simp only [Option.map_some, Option.filter]
              split
              · exact ⟨h0, by show y.lp ≤ _; omega⟩
              · exact ⟨Int.le_refl _, by show (0 : Int) ≤ _; decide⟩
          have hwx : IntKind.i64.wrap (x + 1) = x + 1 := by rw [IntWalk.i64_in _ (by omega)]
          simp only [TI] at hrun6 hlk
          clear hful hN hQ5 hK5 hX5 hB5 hM6 ht6 hg6 hQ6 hx
          go_wp2
          go_roundw
          case rel => exact ⟨k + 1, _, by omega, by go_num, HN⟩
          case measure => simp [intOf]; omega
        · have e2 : (b2.st == 2) = false := by simpa using h2
          have hful : fully rh rr m (at1, bs, kd, cs) = false := by rw [HFD.out, ← HB2.out, decide_eq_false h2]; simp
          have hN := HF.out
          rw [if_neg (by rw [hful]; decide)] at hN
          have HN := Lib.hid (HI.out.next HS.out (Int.not_lt.2 HAT.out) (w' := w5) (by rw [hN]; exact hQ5) hB5)
          clear hful hN hQ5 hK5 hX5 hB5
          go_wp2
          go_roundw
          case rel => exact ⟨k + 1, _, by omega, by go_num, HN⟩
          case measure => simp [intOf]; omega
      · have e3 : (b.st == 3) = false := by simpa using h3
        have hful : fully rh rr m (at1, bs, kd, cs) = false := by rw [HFD.out, decide_eq_false h3]; rfl
        have hN := HF.out
        rw [if_neg (by rw [hful]; decide)] at hN
        have HN := Lib.hid (HI.out.next HS.out (Int.not_lt.2 HAT.out) (by rw [hN]; exact HQ4.out) HB4.out)
        clear hful hN
        go_wp2
        go_roundw
        case rel => exact ⟨k + 1, _, by omega, by go_num, HN⟩
        case measure => simp [intOf]; omega
    · obtain rfl : k = l.length := by omega
      have hm : runS rh rr 345686400000 [] l = m := by rw [HI.out.rest]; exact runS_end
      have HM : Hid (runS rh rr 345686400000 [] l = m) := Lib.hid hm
      have hll := HR.out.1
      have hln := lpL_len m
      have hml := HI.out.sm.1
      have hbr := HI.out.bel
      have HP := Lib.hid (pairs_any M (lpL m) wr HI.out.p.map (HT.out.below hbr) (by omega) (fun p hp => by
        have hg := Sm.get_of_mem (lpL_ok HI.out.ok) (show (p.1, p.2) ∈ lpL m from hp)
        rw [lpL_get HI.out.ok] at hg
        cases hq : m.get p.1 with
        | none => rw [hq] at hg; cases hg
        | some y =>
          rw [hq] at hg
          have hy := HI.out.sm.2 _ (Sm.get_mem hq)
          have h0 : 0 ≤ y.lp := hy.2.2.1
          have h1 : y.lp ≤ (l.length : Int) := hy.2.2.2.1
          have e : y.lp = p.2 := by
            simp only [Option.map_some, Option.filter] at hg
            split at hg
            · injection hg
            · cases hg
          omega))
      have HB := Lib.hid hbr
      have hzr := hbr.size
      clear hm hbr
      go_wp2_with fail
      refine HP.out.mono ?_
      rintro e w5 ⟨⟨v5, rfl, hO5⟩, hb5⟩
      have HF := Lib.hid (And.intro (hO5.base hzr) (Bl.trans HB.out hb5))
      clear hO5 hb5
      go_wp2
      go_ret
      exact ⟨⟨_, rfl, by rw [HM.out]; exact HF.out.1⟩, HF.out.2⟩
end Go.Proofs.YtbkglhakhahfpaaGreatDoor
