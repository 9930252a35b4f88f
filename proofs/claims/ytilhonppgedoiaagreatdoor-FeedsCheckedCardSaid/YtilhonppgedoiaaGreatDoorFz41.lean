/- Texts of the proof of a law, put together, part 41 of 46. Conditions: none beyond those that each theorem names. -/
import Derived.Test.YtilhonppgedoiaaGreatDoorFz24
import Derived.Test.YtilhonppgedoiaaGreatDoorFz30
import Derived.Test.YtilhonppgedoiaaGreatDoorFz31
import Derived.Maps.RangeWalk
import Derived.Sort.KeysCollected
import Derived.WideKeyEntry
namespace Go.Proofs.YtilhonppgedoiaaGreatDoor
open Go.RowKit Go.Sort Go.Maps Go.Lib
def baR (k : Bs) : ByteArray := ⟨k.toArray⟩
theorem baR_list (k : Bs) : (baR k).data.toList = k := by simp [baR]
theorem next_sr {α : Type} {T : Mty α} (hT : T.Ok) {w : World} {ops : Array Oper} {rest : List Oper} {o : Oper} {a : Act} {Q : Exit → Act → World → Prop}
    (hg : o.guard = none) (it : Operand) (hop : o.op = Op.next it false) {b r n : Nat} {l : Sm α} {left : Lit → Bool} {cnt : Nat}
    (hit : a.eval it = .pointer (some ⟨r, 0, none⟩)) (h : w.ranges Tryz.prog 9 T.R b r n (.map (smD T l)) left cnt)
    (hDone : cnt = 0 → (∀ kl, left kl = false) → wpList Tryz.prog ops Q rest (a.put o.dst (.tuple #[.bool false])) w)
    (hMore : ∀ (x : Bs) (y : α) (w' : World) (cnt' : Nat), x.length ≤ maxLen → left (.string x) = true → l.get x = some y → w'.ranges Tryz.prog 9 T.R b r n (.map (smD T l)) (fun z => left z && !z.sameKey (.string x)) cnt' → cnt' < cnt →
      w.grownBy w' (some r) → w'.heap.size = w.heap.size → (Instr.entry (.pointer (some ⟨r, 0, none⟩))).run Tryz.prog w' = .ok (.tuple #[.string (baR x), T.V y]) w' → wpList Tryz.prog ops Q rest (a.put o.dst (.tuple #[.bool true, .string (baR x), T.V y])) w') :
    wpList Tryz.prog ops Q (o :: rest) a w :=
  wpList_next_ranges w hg it hop 9 strKd T.R encStr id (fun key kl hkey => by obtain ⟨x, hx, _⟩ := Maps.keyOf_str (k := 9) Tryz.underlying9 hkey; exact ⟨x, hx⟩) (fun v y _ => ⟨v, rfl⟩)
    b r n _ left cnt hit h hDone (fun x cv kl y w' cnt' hkey hlk hv hat hrg hlt hgr hsz hen => by
      obtain ⟨x', ex, rfl, hwx⟩ := Maps.keyOf_str (k := 9) Tryz.underlying9 hkey
      have e := encStr_inj ex
      subst e
      have hh := has_true_of_atKey hat
      rw [smD_has] at hh
      obtain ⟨u, hu⟩ : ∃ u, l.get x = some u := Option.isSome_iff_exists.1 hh
      have h1 := hat .nil
      rw [smD_get, hu] at h1
      obtain ⟨y1, y2⟩ := y
      have h2 : T.R cv = some (T.d u, y2) := by rw [show T.d u = y1 from h1]; exact hv
      obtain rfl := hT.inv _ _ _ h2
      exact hMore x u w' cnt' hwx hlk hu hrg hlt hgr hsz hen)
theorem OwnO.rec {w : World} {B : Nat} {v : Value} {l : List ByteArray} (h : OwnO w B v l) : RecR TS w 0 v l := by
  rcases h with ⟨rfl, rfl⟩ | ⟨g, o, cap, cur, rfl, hb, hg, h3, h4, h5, h6⟩
  · exact RecR.nil _ _
  · refine ⟨some ⟨g, o, none⟩, cap, rfl, h3, h4, fun j x hj => ⟨g, o, rfl, Nat.zero_le _, blk_lt hg, ?_⟩⟩
    rw [strs_flat, ← h6] at hj
    have hlt : j < l.length := by
      have := (List.getElem?_eq_some_iff.1 hj).1
      rw [List.length_take] at this
      omega
    rw [List.getElem?_take_of_lt hlt, List.getElem?_drop] at hj
    rw [blk_cell hg]
    simpa using hj
def TTk : Rty Tkn := { e := 223, S := 186, k := 6, b := 72, z := .agg #[.int .i64 0, .int .i64 0, .string ByteArray.empty, .string ByteArray.empty, .string ByteArray.empty, .int .i64 0], f := fun x => [.int .i64 x.1, .int .i64 x.2.1, .string x.2.2.1, .string x.2.2.2.1, .string x.2.2.2.2.1, .int .i64 x.2.2.2.2.2] }
theorem TTk.ok : TTk.Ok := ⟨by kernel_rfl, Tryz.underlying186, rfl, by decide, fun _ => rfl, fun x u hu => by simp [TTk] at hu; rcases hu with rfl | rfl | rfl | rfl | rfl | rfl <;> rfl, by decide⟩
/-- the reference's store: parts, what is left, feeders, what was taken. -/
structure RSt where
  P : Sm ByteArray
  V : Sm Int
  F : Fds
  T : List Tkn
structure StR (w : World) (L : Loc) (r : RSt) (N : Nat) : Prop where
  big : N ≤ 1000000000
  ln : r.P.length ≤ N ∧ r.V.length ≤ N ∧ r.F.length ≤ N
  b : L.B ≤ L.S ∧ L.B ≤ L.m0 ∧ L.B ≤ L.m1 ∧ L.B ≤ L.m2
  ne : L.m0 ≠ L.m1 ∧ L.m0 ≠ L.m2 ∧ L.m1 ≠ L.m2
  tv : ∃ tv, w.heap[L.S]? = some (.cells #[.map (some L.m0), .map (some L.m1), .map (some L.m2), tv] 188 (0, 0)) ∧ OwnR TTk w L.B tv r.T
  mP : MapS TMs w L.m0 r.P
  mV : MapS TMi w L.m1 r.V
  mF : MapS TMh w L.m2 (hdS r.F)
  rf : ∀ p ∈ r.F, OwnO w L.B (hdrV p.2.1) p.2.2
section
variable {w w' : World} {L : Loc} {r : RSt} {N : Nat}
theorem StR.low (h : StR w L r N) (hb : Below w.heap.size w w') : StR w' L r N := by
  obtain ⟨tv, h1, h2⟩ := h.tv
  exact ⟨h.big, h.ln, h.b, h.ne, ⟨tv, blk_below h1 hb, h2.below hb⟩, h.mP.below hb, h.mV.below hb, h.mF.below hb, fun p hp => (h.rf p hp).below hb⟩
theorem StR.lt (h : StR w L r N) : L.S < w.heap.size ∧ L.B ≤ w.heap.size := by
  obtain ⟨tv, h1, _⟩ := h.tv
  exact ⟨blk_lt h1, Nat.le_trans h.b.1 (Nat.le_of_lt (blk_lt h1))⟩
theorem StR.mono {M : Nat} (h : StR w L r N) (hN : N ≤ M) (hM : M ≤ 1000000000) : StR w L r M := by
  have := h.ln
  exact ⟨hM, ⟨by omega, by omega, by omega⟩, h.b, h.ne, h.tv, h.mP, h.mV, h.mF, h.rf⟩
theorem StR.cells (h : StR w L r N) : w.cell? ⟨L.S, 0, none⟩ = some (.map (some L.m0)) ∧ w.cell? ⟨L.S, 1, none⟩ = some (.map (some L.m1)) ∧ w.cell? ⟨L.S, 2, none⟩ = some (.map (some L.m2)) := by
  obtain ⟨tv, h1, _⟩ := h.tv
  exact ⟨blk_cell h1 0, blk_cell h1 1, blk_cell h1 2⟩
/-- one of the maps has turned: itself, the rows stay. -/
theorem StR.off (h : StR w L r N) {g : Nat} (hm : ∀ cur t, w.heap[g]? ≠ some (.cells cur t (0, 0))) (hg : w.grownBy w' (some g)) : (∃ tv, w'.heap[L.S]? = some (.cells #[.map (some L.m0), .map (some L.m1), .map (some L.m2), tv] 188 (0, 0)) ∧ OwnR TTk w' L.B tv r.T) ∧ (∀ p ∈ r.F, OwnO w' L.B (hdrV p.2.1) p.2.2) := by
  obtain ⟨tv, h1, h2⟩ := h.tv
  refine ⟨⟨tv, (hg.block _ (blk_lt h1) fun e => by injection e with e; exact hm _ _ (e ▸ h1)).trans h1, (ownR_k TTk L.B).keep h2 fun k e => ?_⟩, fun p hp => (h.rf p hp).keep fun k e => ?_⟩
  · obtain ⟨_, cur, hc⟩ := (ownR_k TTk L.B).blk h2 e
    exact hg.block k (blk_lt hc) fun e1 => by injection e1 with e1; exact hm _ _ (e1 ▸ hc)
  · obtain ⟨_, cur, hc⟩ := (ownO_k L.B).blk (h.rf p hp) e
    exact hg.block k (blk_lt hc) fun e1 => by injection e1 with e1; exact hm _ _ (e1 ▸ hc)
theorem StR.putV (h : StR w L r N) (hN : N + 1 ≤ 1000000000) (k : ByteArray) (hk : k.size ≤ maxLen) (x : Int) :
    ∃ w', (Instr.mapUpdate 149 (.map (some L.m1)) (.string k) (.int .i64 x)).run Tryz.prog w = .ok () w' ∧ StR w' L { r with V := r.V.put k.data.toList x } (N + 1) ∧ Kt L.B w w' := by
  obtain ⟨n1, n2, n3⟩ := h.ln
  obtain ⟨w', hr, hm, ht⟩ := h.mV.put TMi.ok k hk x (lt_max n2 h.big)
  have hg := ht.grown
  have hp := Sm.put_le r.V k.data.toList x
  obtain ⟨h1, h2⟩ := h.off (fun cur t => h.mV.noCells cur t) hg
  exact ⟨w', hr, ⟨hN, ⟨by show r.P.length ≤ _; omega, by show (r.V.put _ _).length ≤ _; omega, by show r.F.length ≤ _; omega⟩, h.b, h.ne, h1, h.mP.kept hg (some_ne h.ne.1), hm, h.mF.kept hg (some_ne h.ne.2.2.symm), h2⟩, Kt.of_gr hg h.b.2.2.1 h.mV.noFix⟩
theorem StR.putF (h : StR w L r N) {M : Nat} (hM : M ≤ 1000000000) (k : ByteArray) (hk : k.size ≤ maxLen) (hd : Hdr) (l : List ByteArray) (hO : OwnO w L.B (hdrV hd) l) (hNM : N ≤ M) (hl : (r.F.put k.data.toList (hd, l)).length ≤ M) :
    ∃ w', (Instr.mapUpdate 180 (.map (some L.m2)) (.string k) (hdrV hd)).run Tryz.prog w = .ok () w' ∧ StR w' L { r with F := r.F.put k.data.toList (hd, l) } M ∧ Kt L.B w w' := by
  obtain ⟨n1, n2, n3⟩ := h.ln
  obtain ⟨w', hr, hm, ht⟩ := h.mF.put TMh.ok k hk hd (by rw [hdS_len]; exact lt_max n3 h.big)
  have hg := ht.grown
  obtain ⟨h1, h2⟩ := h.off (fun cur t => h.mF.noCells cur t) hg
  have hO' : OwnO w' L.B (hdrV hd) l := hO.keep fun g e => by
    obtain ⟨_, cur, hc⟩ := (ownO_k L.B).blk hO e
    exact hg.block g (blk_lt hc) fun e1 => by injection e1 with e1; exact h.mF.noCells _ _ (e1 ▸ hc)
  rw [← hdS_put (v := (hd, l))] at hm
  refine ⟨w', hr, ⟨hM, ⟨by show r.P.length ≤ _; omega, by show r.V.length ≤ _; omega, hl⟩, h.b, h.ne, h1, h.mP.kept hg (some_ne h.ne.2.1), h.mV.kept hg (some_ne h.ne.2.2), hm, fun p hp => ?_⟩, Kt.of_gr hg h.b.2.2.2 h.mF.noFix⟩
  rcases (Sm.ins_mem p).1 hp with rfl | hp
  · exact hO'
  · exact h2 p (List.mem_filter.1 hp).1
theorem StR.delF (h : StR w L r N) (k : ByteArray) (hk : k.size ≤ maxLen) (ty : TypeId) :
    ∃ w', (Builtin.delete_ #[180, 9] ty #[.map (some L.m2), .string k]).run Tryz.prog w = .ok (.tuple #[]) w' ∧ StR w' L { r with F := r.F.del k.data.toList } N ∧ Kt L.B w w' := by
  obtain ⟨n1, n2, n3⟩ := h.ln
  obtain ⟨w', hr, hm, ht⟩ := h.mF.del TMh.ok k hk ty
  have hg := ht.grown
  have hp : (r.F.del k.data.toList).length ≤ r.F.length := List.length_filter_le _ _
  obtain ⟨h1, h2⟩ := h.off (fun cur t => h.mF.noCells cur t) hg
  rw [← hdS_del] at hm
  exact ⟨w', hr, ⟨h.big, ⟨n1, n2, by show (r.F.del _).length ≤ _; omega⟩, h.b, h.ne, h1, h.mP.kept hg (some_ne h.ne.2.1), h.mV.kept hg (some_ne h.ne.2.2), hm, fun p hp => h2 p (List.mem_filter.1 hp).1⟩, Kt.of_gr hg h.b.2.2.2 h.mF.noFix⟩
theorem StR.rowB (h : StR w L r N) (k : ByteArray) (hk : k.size ≤ maxLen) : ∃ hd, (∀ W, Below w.heap.size w W → (Instr.lookup 180 (.map (some L.m2)) (.string k) false).run Tryz.prog W = .ok (hdrV hd) W) ∧ OwnO w L.B (hdrV hd) (rowO r.F k) := by
  refine ⟨((hdS r.F).get k.data.toList).getD TMh.z, fun W hW => (h.mF.below hW).look TMh.ok k hk, ?_⟩
  rw [hdS_get]
  unfold rowO
  cases hg : r.F.get k.data.toList with
  | none => exact .inl ⟨rfl, rfl⟩
  | some p => exact h.rf _ (Sm.get_mem hg)
theorem StR.leftB (h : StR w L r N) (k : ByteArray) (hk : k.size ≤ maxLen) : ∀ W, Below w.heap.size w W → (Instr.lookup 149 (.map (some L.m1)) (.string k) false).run Tryz.prog W = .ok (.int .i64 (lfI r.V k)) W := fun _ hW => (h.mV.below hW).look TMi.ok k hk
def ptR (P : Sm ByteArray) (k : ByteArray) : ByteArray := (P.get k.data.toList).getD ByteArray.empty
theorem StR.partB (h : StR w L r N) (k : ByteArray) (hk : k.size ≤ maxLen) : ∀ W, Below w.heap.size w W → (Instr.lookup 179 (.map (some L.m0)) (.string k) false).run Tryz.prog W = .ok (.string (ptR r.P k)) W := fun _ hW => (h.mP.below hW).look TMs.ok k hk
end
/-- the reference's store holds what the model tells. -/
structure RelR (r : RSt) (A : Mdl) : Prop where
  left : lfI r.V = A.left
  part : ∀ x, ptR r.P x = A.part x
  row : ∀ f, rowO r.F f = A.row f
  log : r.T = A.log
theorem lfI_put (V : Sm Int) (k : ByteArray) (n : Int) : lfI (V.put k.data.toList n) = updL (lfI V) k n := by
  funext x
  unfold lfI updL
  by_cases h : x = k
  · subst h; rw [Sm.get_put_same, if_pos rfl]; rfl
  · rw [Sm.get_put_other (fun e => h (ba_ext e).symm), if_neg h]
set_option maxHeartbeats 4000000 in
set_option maxRecDepth 100000 in
theorem where_any (L : Loc) (r : RSt) (N n : Nat) (A : Mdl) (x : ByteArray) (w : World) (h : StR w L r N) (hR : RelR r A) (hI : InvM A n) (hn : n ≤ 900) :
    Calls Tryz.prog 176 #[.pointer (some ⟨L.S, 0, none⟩), .string x] w fun e w' => e = .returned (.string (A.pos x)) ∧ Below w.heap.size w w' := by
  have c2 := h.cells.2.2
  have hO2 := h.mF.2
  obtain ⟨fl, hfl⟩ : ∃ fl, fl = (hdS r.F).length := ⟨_, rfl⟩
  rw [← hfl] at hO2
  have H := Lib.hid h
  have HR := Lib.hid hR
  have HI := Lib.hid hI
  have HN := Lib.hid hn
  have HNO : Hid (∀ left : Lit → Bool, left = (fun k => Maps.has (DataW.map (smD TMh (hdS r.F))) k) → ∀ k y, r.F.get k = some y → left (.string k) = false → x ∉ y.2) := Lib.hid fun left hl k y hg h0 => by
    subst hl
    simp only at h0
    rw [smD_has] at h0
    unfold Sm.has at h0
    rw [hdS_get, hg] at h0
    cases h0
  have lS := h.lt.1
  clear h hR hI hn hfl
  go_enter Tryz.func176, Tryz.ntmps176
  go_wp2_with (first
    | (at_range; refine wpList_range_own _ rfl _ 180 rfl 9 63 strKd Tryz.underlying180 _ L.m2 fl (.map (smD TMh (hdS r.F))) rfl hO2 ?_; intro w0 hrg0 hg0 hs0)
    | go_in)
  go_frame
  go_loopw [] (fun wr => ∃ (left : Lit → Bool) (cnt : Nat), wr.ranges Tryz.prog 9 TMh.R L.m2 w.heap.size fl (.map (smD TMh (hdS r.F))) left cnt ∧ Hid (∀ k y, r.F.get k = some y → left (.string k) = false → x ∉ y.2) ∧ Hid (Below w.heap.size w wr) ∧ w.heap.size < wr.heap.size) (fun wr => wr.rangeLeft L.m2 w.heap.size)
  case atStart => exact ⟨_, _, hrg0, Lib.hid (HNO.out _ rfl), Lib.hid (Gr.below_none hg0), by omega⟩
  case round =>
    obtain ⟨left, cnt, hrg, HA, HB, hsz⟩ := hrel
    go_wp2_with (first
      | (at_next; refine next_sr TMh.ok rfl _ rfl rfl hrg ?_ ?_)
      | go_in)
    · intro _ hl0
      have HP : Hid (A.pos x = ByteArray.empty) := Lib.hid (Classical.byContradiction fun h0 => by
        have h1 := HI.out.in2 x h0
        rw [← HR.out.row] at h1
        unfold rowO at h1
        cases hg : r.F.get (A.pos x).data.toList with
        | none => rw [hg] at h1; simp at h1
        | some y => rw [hg] at h1; exact HA.out _ y hg (hl0 _) h1)
      go_wp2
      go_ret
      exact ⟨by rw [HP.out] <;> rfl, HB.out⟩
    · intro k ha hb hc w1 cnt1 hxl hlk hget hrg1 hlt hg1 hsz1 hen
      obtain ⟨hd, hhd⟩ : ∃ hd : Hdr, hd = (ha, hb, hc) := ⟨_, rfl⟩
      rw [← hhd] at hget hen ⊢
      clear hhd
      have hb1 : Below w.heap.size w w1 := Below.trans HB.out (Gr.below hg1 (Nat.le_refl _) (Nat.le_of_lt hsz))
      have HB1 := Lib.hid hb1
      rw [hdS_get] at hget
      obtain ⟨l, hgl⟩ : ∃ l, r.F.get k = some (hd, l) := by
        cases hg : r.F.get k with
        | none => rw [hg] at hget; cases hget
        | some p => rw [hg] at hget; injection hget with hget; exact ⟨p.2, by rw [← hget]⟩
      have hrow : A.row (baR k) = l := by
        rw [← HR.out.row]
        unfold rowO
        rw [baR_list, hgl]
      have hll : l.length ≤ 100000 := by have h1 := HI.out.ln (baR k); have h2 := HN.out; rw [hrow] at h1; omega
      have HCO := Lib.hid (ContainsS_any l (hdrV hd) x w1 hll (((H.out.low hb1).rf _ (Sm.get_mem hgl)).rec))
      obtain ⟨cb, hcb⟩ : ∃ cb, cb = Lib.containsS l x := ⟨_, rfl⟩
      rw [← hcb] at HCO
      have HCB := Lib.hid hcb
      have HROW := Lib.hid hrow
      have HGL := Lib.hid hgl
      have hen2 : (Instr.entry (.pointer (some ⟨w.heap.size, 0, none⟩))).run Tryz.prog w1 = .ok (.tuple #[.string (baR k), hdrV hd]) w1 := hen
      obtain ⟨hv, hhv⟩ : ∃ hv, hv = hdrV hd := ⟨_, rfl⟩
      rw [← hhv] at HCO hen2
      clear hb1 hget hgl hrow hll hcb hen hhv
      cases cb
      case true =>
        have HP : Hid (A.pos x = baR k) := Lib.hid (HI.out.in1 _ x (by rw [HROW.out]; exact (Lib.containsS_iff l x).1 HCB.out.symm))
        go_wp2_with fail
        refine HCO.out.mono ?_
        rintro e w2 ⟨rfl, rfl⟩
        go_wp2
        go_ret
        exact ⟨by rw [HP.out] <;> rfl, HB1.out⟩
      case false =>
        have HA1 : Hid (∀ k' y, r.F.get k' = some y → (left (.string k') && !(Lit.string k').sameKey (.string k)) = false → x ∉ y.2) := Lib.hid fun k' y hg h0 => by
          rw [sm_same] at h0
          by_cases hk : k' = k
          · subst hk
            rw [HGL.out] at hg
            injection hg with hg
            rw [← hg]
            intro hm
            have := (Lib.containsS_iff l x).2 hm
            rw [← HCB.out] at this
            cases this
          · rw [decide_eq_false hk] at h0
            simp at h0
            exact HA.out k' y hg h0
        go_wp2_with fail
        refine HCO.out.mono ?_
        rintro e w2 ⟨rfl, rfl⟩
        go_wp2
        go_roundw
        case rel => exact ⟨_, cnt1, hrg1, HA1, HB1, by omega⟩
        case measure => rw [hrg1.left_eq, hrg.left_eq]; exact hlt
end Go.Proofs.YtilhonppgedoiaaGreatDoor
namespace Go.Proofs.YtilhonppgedoiaaGreatDoor
open Go.RowKit Go.Sort Go.Maps
theorem ba_nil (s : ByteArray) : s = ByteArray.empty ↔ s.toList = [] := by
  rw [← ba_eq_iff]
  have : ByteArray.empty.toList = [] := by rw [ByteArray.toList_eq]; rfl
  rw [this]
theorem refM_4 (A : Mdl) (a : Int) (fd rk : ByteArray) (mn : Int) (bd : ByteArray) : refM A (a, 4, fd, rk, mn, bd) = if A.row fd = [] then 8 else if sumL A.left (A.row fd) < mn then 16 else 0 := by
  unfold refM; rw [if_neg (show ¬ (4 : Int) = 1 by decide), if_neg (show ¬ (4 : Int) = 2 by decide), if_neg (show ¬ (4 : Int) = 3 by decide), if_pos (show (4 : Int) = 4 from rfl)]
set_option maxHeartbeats 16000000 in
set_option maxRecDepth 100000 in
theorem refuses_any (L : Loc) (s : RSt) (N n : Nat) (A : Mdl) (e : Fed) (w : World) (h : StR w L s N) (hR : RelR s A) (hI : InvM A n) (hn : n ≤ 900) (he : FedR e) :
    Calls Tryz.prog 144 #[.pointer (some ⟨L.S, 0, none⟩), fedV e] w fun r w' => r = .returned (.int .i64 (refM A e)) ∧ Below w.heap.size w w' := by
  obtain ⟨at', kd, fd, rk, mn, bd⟩ := e
  have hfd : fd.size ≤ maxLen := Nat.le_trans he.fd (by unfold maxLen; omega)
  have hrk : rk.size ≤ maxLen := Nat.le_trans he.rl (by unfold maxLen; omega)
  have hk : kd = 1 ∨ kd = 2 ∨ kd = 3 ∨ kd = 4 ∨ kd = 5 := by have h1 : 1 ≤ kd := he.k1; have h2 : kd ≤ 5 := he.k5; omega
  obtain ⟨w1, hw1⟩ : ∃ w1, w1 = w.alloc (.cells #[.int .i64 at', .int .i64 kd, .string fd, .string rk, .int .i64 mn, .string bd] 37) := ⟨_, rfl⟩
  have hb1 : Below w.heap.size w w1 := by rw [hw1]; exact Bl.alloc (Below.refl _ _) _
  have hx1 : w1.heap[w.heap.size]? = some (.cells #[.int .i64 at', .int .i64 kd, .string fd, .string rk, .int .i64 mn, .string bd] 37 (0, 0)) := by rw [hw1]; exact blk_new w _
  have h1 := h.low hb1
  obtain ⟨l, hl⟩ : ∃ l, l = A.row fd := ⟨_, rfl⟩
  obtain ⟨hd, hlkf, hO⟩ := h1.rowB fd hfd
  rw [hR.row, ← hl] at hO
  obtain ⟨ra, rc, hv, _, _⟩ := hO.form
  rw [hv] at hlkf hO
  have hlf : ∀ m, (Instr.lookup 180 (.map (some L.m2)) (.string fd) false).run Tryz.prog (w1.drewN m) = .ok (.slice ra l.length rc) (w1.drewN m) := fun m => hlkf _ (Bl.drewN (Below.refl _ _) m)
  have H1 := Lib.hid h1
  have HB1 := Lib.hid hb1
  have HRR := Lib.hid hR
  have HII := Lib.hid hI
  have HL := Lib.hid hl
  have HNN := Lib.hid hn
  have HRK := Lib.hid hrk
  have HO := Lib.hid hO
  have HFD := Lib.hid hfd
  have HWH := Lib.hid (fun W (hW : Below w1.heap.size w1 W) => where_any L s N n A rk W (h1.low hW) hR hI hn)
  have c2 : w1.cell? ⟨L.S, 2, none⟩ = some (.map (some L.m2)) := h1.cells.2.2
  have x2 : w1.cell? ⟨w.heap.size, 2, none⟩ = some (.string fd) := blk_cell hx1 2
  have lS := h1.lt.1
  have lx := blk_lt hx1
  have HW : Hid (∀ W, Below w1.heap.size w1 W → W.cell? ⟨L.S, 0, none⟩ = some (.map (some L.m0)) ∧ W.cell? ⟨w.heap.size, 1, none⟩ = some (.int .i64 kd) ∧ W.cell? ⟨w.heap.size, 2, none⟩ = some (.string fd) ∧ W.cell? ⟨w.heap.size, 3, none⟩ = some (.string rk) ∧ W.cell? ⟨w.heap.size, 4, none⟩ = some (.int .i64 mn) ∧ L.S < W.heap.size ∧ w.heap.size < W.heap.size) := Lib.hid fun W hW => by
    have h2 := h1.low hW
    have h3 := blk_below hx1 hW
    exact ⟨h2.cells.1, blk_cell h3 1, blk_cell h3 2, blk_cell h3 3, blk_cell h3 4, h2.lt.1, blk_lt h3⟩
  change Calls _ _ #[_, .agg #[.int .i64 at', .int .i64 kd, .string fd, .string rk, .int .i64 mn, .string bd]] _ _
  clear h h1 hO hv hx1 hb1 hlkf hl hR hI he hfd hrk hn
  rcases hk with rfl | rfl | rfl | rfl | rfl
  all_goals (
    go_enter Tryz.func144, Tryz.ntmps144
    go_wp2_with fail
    rw [← hw1]
    clear hw1
    go_quiet (fail)
    clear c2 x2 lS lx hlf
    have HB3 : Hid (Below w1.heap.size w1 (w1.drewN nq)) := Lib.hid (Bl.drewN (Below.refl _ _) _)
    have HBW : Hid (∀ W, Below (w1.drewN nq).heap.size (w1.drewN nq) W → Below w.heap.size w W) := Lib.hid fun W hW => Bl.trans HB1.out (Bl.trans HB3.out hW)
    obtain ⟨c0, x1, x2, x3, x4, lS, lx⟩ := HW.out _ HB3.out
    generalize w1.drewN nq = w3 at *)
  · by_cases hl0 : l = []
    · have HW3 := Lib.hid (HWH.out w3 HB3.out)
      obtain ⟨pv, hpv⟩ : ∃ pv, pv = A.pos rk := ⟨_, rfl⟩
      rw [← hpv] at HW3
      by_cases hp0 : pv = ByteArray.empty
      · have HR0 : Hid (refM A (at', 1, fd, rk, mn, bd) = 0) := Lib.hid (by rw [refM_1, ← HL.out, if_pos ⟨hl0, by rw [← hpv]; exact hp0⟩])
        have hp1 := (ba_nil _).1 hp0
        have hp2 : pv.toList.isEmpty = true := by rw [hp1]; rfl
        clear hpv hp0
        subst hl0
        go_wp2_with fail
        refine HW3.out.mono ?_
        rintro r w4 ⟨rfl, hb4⟩
        have HF := Lib.hid (HBW.out _ hb4)
        clear hb4
        go_wp2
        go_ret
        exact ⟨ret_int HR0.out.symm, HF.out⟩
      · have HR0 : Hid (refM A (at', 1, fd, rk, mn, bd) = 11) := Lib.hid (by rw [refM_1, if_neg (fun h => hp0 (by rw [hpv]; exact h.2))])
        have hp1 : ¬ pv.toList = [] := fun h => hp0 ((ba_nil _).2 h)
        have hp2 : pv.toList.isEmpty = false := by cases hq : pv.toList with
          | nil => exact absurd hq hp1
          | cons a b => rfl
        clear hpv hp0
        subst hl0
        go_wp2_with fail
        refine HW3.out.mono ?_
        rintro r w4 ⟨rfl, hb4⟩
        have HF := Lib.hid (HBW.out _ hb4)
        clear hb4
        go_wp2
        go_ret
        exact ⟨ret_int HR0.out.symm, HF.out⟩
    · have HR0 : Hid (refM A (at', 1, fd, rk, mn, bd) = 11) := Lib.hid (by rw [refM_1, ← HL.out, if_neg (fun h => hl0 h.1)])
      have hp1 : (0 : Int) < (l.length : Int) := by have := List.length_pos_iff.2 hl0; omega
      have hp2 : 0 < l.length := by omega
      clear hl0
      have HF := Lib.hid (HBW.out _ (Below.refl _ _))
      go_wp2
      go_ret
      exact ⟨ret_int HR0.out.symm, HF.out⟩
  · have HF0 := Lib.hid (HBW.out _ (Below.refl _ _))
    by_cases hl0 : l = []
    · have HR0 : Hid (refM A (at', 2, fd, rk, mn, bd) = 8) := Lib.hid (by rw [refM_2, ← HL.out, if_pos hl0])
      subst hl0
      go_wp2
      go_ret
      exact ⟨ret_int HR0.out.symm, HF0.out⟩
    have hq1 : (0 : Int) < (l.length : Int) := by have := List.length_pos_iff.2 hl0; omega
    have hq2 : 0 < l.length := by omega
    have hq3 : ((l.length : Int) == 0) = false := by simp; omega
    have hq4 : ¬ (l.length : Int) = 0 := by omega
    have hq5 : ¬ l.length = 0 := by omega
    have HL0 := Lib.hid hl0
    clear hl0
    have HW3 := Lib.hid (HWH.out w3 HB3.out)
    obtain ⟨pv, hpv⟩ : ∃ pv, pv = A.pos rk := ⟨_, rfl⟩
    rw [← hpv] at HW3
    by_cases hp0 : pv = ByteArray.empty
    case neg =>
      have HR0 : Hid (refM A (at', 2, fd, rk, mn, bd) = 11) := Lib.hid (by rw [refM_2, ← HL.out, if_neg HL0.out, if_pos (by rw [← hpv]; exact hp0)])
      have hp1 : ¬ pv.toList = [] := fun h => hp0 ((ba_nil _).2 h)
      have hp2 : pv.toList.isEmpty = false := by cases hq : pv.toList with
        | nil => exact absurd hq hp1
        | cons a b => rfl
      clear hpv hp0
      go_wp2_with fail
      refine HW3.out.mono ?_
      rintro r w4 ⟨rfl, hb4⟩
      have HF := Lib.hid (HBW.out _ hb4)
      clear hb4
      go_wp2
      go_ret
      exact ⟨ret_int HR0.out.symm, HF.out⟩
    have hp1 := (ba_nil _).1 hp0
    have hp2 : pv.toList.isEmpty = true := by rw [hp1]; rfl
    have HP0 : Hid (A.pos rk = ByteArray.empty) := Lib.hid (by rw [← hpv]; exact hp0)
    clear hpv hp0
    go_wp2_with fail
    refine HW3.out.mono ?_
    rintro r w4 ⟨rfl, hb4⟩
    have HF := Lib.hid (HBW.out _ hb4)
    have HB4 := Lib.hid (Bl.trans HB3.out hb4)
    clear hb4 c0 x1 x2 x3 x4 lS lx HW3
    obtain ⟨c0, x1, x2, x3, x4, lS, lx⟩ := HW.out _ HB4.out
    obtain ⟨x, r, hxr⟩ : ∃ x r, l = x :: r := by
      cases l with
      | nil => exact absurd rfl HL0.out
      | cons x r => exact ⟨x, r, rfl⟩
    have hxs : x.size ≤ maxLen := Nat.le_trans (HII.out.sz fd x (by rw [← HL.out, hxr]; simp)) (by unfold maxLen; omega)
    obtain ⟨g, o, cap, hva, d0⟩ := (HO.out.below HB4.out).at (k := 0) (x := x) (by rw [hxr]; rfl)
    injection hva with e1 e2 e3
    subst e1 e3
    rw [Nat.add_zero] at d0
    have lg := World.block_lt_of_cell? _ _ d0
    simp only at lg
    have h4 := H1.out.low HB4.out
    obtain ⟨p1, hp1e⟩ : ∃ p, p = ptR s.P rk := ⟨_, rfl⟩
    obtain ⟨p2, hp2e⟩ : ∃ p, p = ptR s.P x := ⟨_, rfl⟩
    have hq1a := fun m => h4.partB rk HRK.out _ (Bl.drewN (Below.refl w4.heap.size w4) m)
    have hq2a := fun m => h4.partB x hxs _ (Bl.drewN (Below.refl w4.heap.size w4) m)
    rw [← hp1e] at hq1a
    rw [← hp2e] at hq2a
    have HP12 : Hid (p1 = A.part rk ∧ p2 = A.part (l.headD ByteArray.empty)) := Lib.hid ⟨by rw [hp1e, HRR.out.part], by rw [hp2e, HRR.out.part, hxr]; rfl⟩
    have HBW4 : Hid (∀ m, Below w.heap.size w (w4.drewN m)) := Lib.hid fun m => Bl.drewN HF.out m
    clear hxs h4 hp1e hp2e hxr e2
    by_cases hpp : p1 = p2
    · have hpb : (p1.toList == p2.toList) = true := by rw [hpp]; simp
      have hpe : p1.toList = p2.toList := by rw [hpp]
      have HR0 : Hid (refM A (at', 2, fd, rk, mn, bd) = 0) := Lib.hid (by rw [refM_2, ← HL.out, if_neg HL0.out, if_neg (fun h => h HP0.out), if_neg (fun h => h (by rw [← HP12.out.1, ← HP12.out.2, hpp]))])
      clear hpp
      go_wp2_with fail
      go_quiet (fail)
      have HFF := Lib.hid (HBW4.out nq)
      go_wp2
      go_ret
      exact ⟨ret_int HR0.out.symm, HFF.out⟩
    · have hpe : ¬ p1.toList = p2.toList := fun h => hpp ((ba_eq_iff _ _).1 h)
      have hpb : (p1.toList == p2.toList) = false := by simpa using hpe
      have HR0 : Hid (refM A (at', 2, fd, rk, mn, bd) = 10) := Lib.hid (by rw [refM_2, ← HL.out, if_neg HL0.out, if_neg (fun h => h HP0.out), if_pos (fun h => hpp (by rw [HP12.out.1, HP12.out.2, h]))])
      clear hpp
      go_wp2_with fail
      go_quiet (fail)
      have HFF := Lib.hid (HBW4.out nq)
      go_wp2
      go_ret
      exact ⟨ret_int HR0.out.symm, HFF.out⟩
  · by_cases hl0 : l = []
    · have HR0 : Hid (refM A (at', 3, fd, rk, mn, bd) = 8) := Lib.hid (by rw [refM_3, ← HL.out, if_pos hl0])
      have HF := Lib.hid (HBW.out _ (Below.refl _ _))
      have HNF := Lib.hid (NoneFaultR_any true w3)
      subst hl0
      go_wp2_with fail
      refine HNF.out.mono ?_
      rintro r w4 ⟨rfl, rfl⟩
      go_wp2
      go_ret
      exact ⟨ret_int HR0.out.symm, HF.out⟩
    · have HR0 : Hid (refM A (at', 3, fd, rk, mn, bd) = 0) := Lib.hid (by rw [refM_3, ← HL.out, if_neg hl0])
      have hp3 : ((l.length : Int) == 0) = false := by have := List.length_pos_iff.2 hl0; simp; omega
      have hp4 : ¬ (l.length : Int) = 0 := by simpa using hp3
      have hp5 : ¬ l.length = 0 := by omega
      have HF := Lib.hid (HBW.out _ (Below.refl _ _))
      have HNF := Lib.hid (NoneFaultR_any false w3)
      clear hl0
      go_wp2_with fail
      refine HNF.out.mono ?_
      rintro r w4 ⟨rfl, rfl⟩
      go_wp2
      go_ret
      exact ⟨ret_int HR0.out.symm, HF.out⟩
  · have HF0 := Lib.hid (HBW.out _ (Below.refl _ _))
    by_cases hl0 : l = []
    · have HR0 : Hid (refM A (at', 4, fd, rk, mn, bd) = 8) := Lib.hid (by rw [refM_4, ← HL.out, if_pos hl0])
      subst hl0
      go_wp2
      go_ret
      exact ⟨ret_int HR0.out.symm, HF0.out⟩
    have hp3 : ((l.length : Int) == 0) = false := by have := List.length_pos_iff.2 hl0; simp; omega
    have hp4 : ¬ (l.length : Int) = 0 := by simpa using hp3
    have hp5 : ¬ l.length = 0 := by omega
    have HSUM : Hid (∀ W, Below w3.heap.size w3 W → Calls Tryz.prog 178 #[.pointer (some ⟨L.S, 0, none⟩), .string fd] W fun e w' => e = .returned (.int .i64 (sumL A.left l)) ∧ w' = W) := Lib.hid fun W hW => by
      have h2 := H1.out.low (Bl.trans HB3.out hW)
      have h3 := rsum_any L.S L.m1 L.m2 L.B fd W s.V s.F h2.cells.2.1 h2.cells.2.2 h2.mV h2.mF h2.rf HFD.out
        (fun x hx => Nat.le_trans (HII.out.sz fd x (by rw [← HRR.out.row]; exact hx)) (by unfold maxLen; omega)) (by rw [HRR.out.row]; have h1 := HII.out.ln fd; have h2 := HNN.out; omega) (fun x => by rw [HRR.out.left]; exact HII.out.lf x)
      rw [HRR.out.left, HRR.out.row, ← HL.out] at h3
      exact h3.mono fun _ _ h => ⟨h.1, h.2.symm⟩
    have HBW3 : Hid (∀ m, Below w.heap.size w (w3.drewN m)) := Lib.hid fun m => HBW.out _ (Bl.drewN (Below.refl _ _) m)
    by_cases hsm : sumL A.left l < mn
    · have HR0 : Hid (refM A (at', 4, fd, rk, mn, bd) = 16) := Lib.hid (by rw [refM_4, ← HL.out, if_neg hl0, if_pos hsm])
      have hsd : decide (sumL A.left l < mn) = true := decide_eq_true hsm
      clear hl0
      go_wp2_with fail
      go_quiet ((go_at_call 178; exact Calls.quiet_of_same (HSUM.out _ (Bl.drewN (Below.refl _ _) _))))
      have HFF := Lib.hid (HBW3.out nq)
      go_wp2
      go_ret
      exact ⟨ret_int HR0.out.symm, HFF.out⟩
    · have HR0 : Hid (refM A (at', 4, fd, rk, mn, bd) = 0) := Lib.hid (by rw [refM_4, ← HL.out, if_neg hl0, if_neg hsm])
      have hsd : decide (sumL A.left l < mn) = false := decide_eq_false hsm
      clear hl0
      go_wp2_with fail
      go_quiet ((go_at_call 178; exact Calls.quiet_of_same (HSUM.out _ (Bl.drewN (Below.refl _ _) _))))
      have HFF := Lib.hid (HBW3.out nq)
      go_wp2
      go_ret
      exact ⟨ret_int HR0.out.symm, HFF.out⟩
  · have HR0 : Hid (refM A (at', 5, fd, rk, mn, bd) = 0) := Lib.hid (refM_5 ..)
    have HF := Lib.hid (HBW.out _ (Below.refl _ _))
    go_wp2
    go_ret
    exact ⟨ret_int HR0.out.symm, HF.out⟩
end Go.Proofs.YtilhonppgedoiaaGreatDoor
namespace Go.Proofs.YtilhonppgedoiaaGreatDoor
open Go.RowKit Go.Sort Go.Maps
theorem CloneSr_any (l : List ByteArray) (v : Value) (w : World) (hl : l.length ≤ 100000) (rl : RecR TS w 0 v l) :
    Calls Tryz.prog 145 #[v] w fun e w' => ∃ v', e = .returned v' ∧ OwnR TS w' w.heap.size v' l ∧ Below w.heap.size w w' := by
  obtain ⟨a, cap, rfl, hc1, hc2⟩ := rl.form
  by_cases h0 : l = []
  · subst h0
    cases a with
    | none =>
      refine (Tryz.slices_Clone_string_nil _ cap w).mono ?_
      rintro e w' ⟨rfl, rfl⟩
      exact ⟨_, rfl, OwnR.nil _ _, Below.refl _ _⟩
    | some a =>
      refine (Tryz.slices_Clone_string_zero a cap w).mono ?_
      rintro e w' ⟨v', rfl, h1, _, h2⟩
      exact ⟨v', rfl, h1, h2⟩
  · obtain ⟨y, hy⟩ : ∃ y, l[0]? = some y := ⟨_, List.getElem?_eq_getElem (List.length_pos_iff.2 h0)⟩
    obtain ⟨b, o, rfl, _, _, _⟩ := strs_at rl hy
    refine (Tryz.slices_Clone_string b o l.length cap l w (Nat.le_refl _) (by omega) (strs_cells rl)).mono ?_
    rintro e w' ⟨v', rfl, h1, _, h2⟩
    refine ⟨v', rfl, ?_, h2⟩
    rw [List.take_length] at h1
    unfold OwnR
    rw [strs_flat]
    exact h1
theorem put_has {α : Type} {l : Sm α} {k : Bs} {u v : α} (h : l.get k = some u) : (l.put k v).length ≤ l.length := by
  unfold Sm.put
  rw [Sm.ins_length]
  have := List.length_filter_lt_length_iff_exists (l := l) (p := fun p : Bs × α => decide (p.1 ≠ k))
  have h2 := this.2 ⟨(k, u), Sm.get_mem h, by simp⟩
  unfold Sm.del
  omega
/-- where drop stands. -/
structure DrI (L : Loc) (s : RSt) (N : Nat) (f : ByteArray) (w wr : World) (v : Value) (n : Nat) (F' : Fds) (l' : List ByteArray) : Prop where
  len : n = l'.length
  drop : dropE (lfI s.V) (rowO s.F f) = dropE (lfI s.V) l'
  own : OwnO wr L.B v l'
  row : rowO F' f = l'
  oth : ∀ g, g ≠ f → rowO F' g = rowO s.F g
  sub : l' <:+ rowO s.F f
  st : StR wr L { s with F := F' } N
  kt : Kt L.B w wr
set_option maxHeartbeats 8000000 in
set_option maxRecDepth 100000 in
theorem drop_any (L : Loc) (s : RSt) (N : Nat) (f : ByteArray) (w : World) (h : StR w L s N) (hf : f.size ≤ maxLen) (hn : ∀ x ∈ rowO s.F f, x.size ≤ maxLen) (hlen : (rowO s.F f).length ≤ 900) :
    Calls Tryz.prog 179 #[.pointer (some ⟨L.S, 0, none⟩), .string f] w fun e w' => e = .returned (.tuple #[]) ∧ ∃ F', StR w' L { s with F := F' } N ∧ (∀ g, rowO F' g = if g = f then dropE (lfI s.V) (rowO s.F f) else rowO s.F g) ∧ Kt L.B w w' := by
  have c2 := h.cells.2.2
  obtain ⟨hd, hlk, hO⟩ := h.rowB f hf
  obtain ⟨a0, cap0, hv, _, _⟩ := hO.form
  have hlk0 := hlk w (Below.refl _ _)
  obtain ⟨n0, hn0⟩ : ∃ n0, n0 = (rowO s.F f).length := ⟨_, rfl⟩
  rw [hv, ← hn0] at hlk0
  rw [hv, ← hn0] at hO
  have HI0 : Hid (DrI L s N f w w (.slice a0 n0 cap0) n0 s.F (rowO s.F f)) := Lib.hid ⟨hn0, rfl, hO, rfl, fun _ _ => rfl, List.suffix_refl _, h, Kt.refl _ _⟩
  have HF := Lib.hid hf
  have HNM := Lib.hid hn
  have HLN := Lib.hid hlen
  have lS := h.lt.1
  have HEND : Hid (∀ wr W v n F' l', DrI L s N f w wr v n F' l' → dropE (lfI s.V) l' = l' → Below wr.heap.size wr W → ∃ F', StR W L { s with F := F' } N ∧ (∀ g, rowO F' g = if g = f then dropE (lfI s.V) (rowO s.F f) else rowO s.F g) ∧ Kt L.B w W) := Lib.hid fun wr W v n F' l' hI e hW => by
    refine ⟨F', hI.st.low hW, fun g => ?_, hI.kt.trans (Kt.of_below hW)⟩
    by_cases hg : g = f
    · rw [if_pos hg, hg, hI.row, hI.drop, e]
    · rw [if_neg hg, hI.oth g hg]
  clear h hlk hO hv hn hlen hf hn0
  go_enter Tryz.func179, Tryz.ntmps179
  go_wp2_with fail
  clear hlk0 c2
  go_loopw [4] (fun v4 wr => ∃ (a : Option Addr) (n cap : Nat) (F' : Fds) (l' : List ByteArray), v4 = .slice a n cap ∧ Hid (DrI L s N f w wr (.slice a n cap) n F' l')) (fun v4 _ => slLen v4)
  case atStart => exact ⟨_, _, _, _, _, rfl, HI0⟩
  case round =>
    obtain ⟨a, n, cap, F', l', rfl, HI⟩ := hrel
    by_cases h1 : n ≤ 1
    case pos =>
      have HD : Hid (dropE (lfI s.V) l' = l') := Lib.hid (by
        have := HI.out.len
        match l', this with
        | [], _ => rfl
        | [x], _ => rfl
        | x :: y :: t, h => simp at h; omega)
      have h2 : n = 0 ∨ n = 1 := by omega
      clear h1
      rcases h2 with rfl | rfl
      all_goals (
        go_wp2_with fail
        go_quiet (fail)
        have HE := Lib.hid (HEND.out _ _ _ _ _ _ HI.out HD.out (Bl.drewN (Below.refl _ _) nq))
        go_wp2
        go_end0
        exact ⟨rfl, HE.out⟩)
    case neg =>
      have hI := HI.out
      obtain ⟨x, y, r, rfl⟩ : ∃ x y r, l' = x :: y :: r := by
        have := hI.len
        match l', this with
        | [], h => simp at h; omega
        | [x], h => simp at h; omega
        | x :: y :: t, h => exact ⟨x, y, t, rfl⟩
      obtain ⟨g, o, cap2, hv2, d0⟩ := hI.own.at (k := 0) rfl
      injection hv2 with e1 e2 e3
      subst e1
      clear e2 e3
      rw [Nat.add_zero] at d0
      have hcap : n ≤ cap := by
        obtain ⟨a3, c3, e3, h3, -⟩ := hI.own.form
        injection e3 with _ e3 e4
        rw [e3, e4]; exact h3
      have hxs : x.size ≤ maxLen := HNM.out x (hI.sub.subset (by simp))
      have hlr2 : ∀ m, (Instr.lookup 149 (.map (some L.m1)) (.string x) false).run Tryz.prog (wr.drewN m) = .ok (.int .i64 (lfI s.V x)) (wr.drewN m) := fun m => hI.st.leftB x hxs _ (Bl.drewN (Below.refl _ _) m)
      obtain ⟨qn, hqn⟩ : ∃ qn, qn = lfI s.V x := ⟨_, rfl⟩
      rw [← hqn] at hlr2
      have HQN := Lib.hid hqn
      have a1 := hI.st.cells.2.1
      have lSr := hI.st.lt.1
      have lg2 := World.block_lt_of_cell? _ _ d0
      simp only at lg2
      have hn2 : (1 : Int) < (n : Int) := by omega
      have hn3 : 1 < n := by omega
      clear hI hxs hqn h1
      by_cases hq0 : qn = 0
      case neg =>
        have hqf : (qn == 0) = false := by simp [hq0]
        have HD : Hid (dropE (lfI s.V) (x :: y :: r) = x :: y :: r) := Lib.hid (dropE_pos _ (by rw [← HQN.out]; exact hq0))
        go_wp2_with fail
        go_quiet (fail)
        have HE := Lib.hid (HEND.out _ _ _ _ _ _ HI.out HD.out (Bl.drewN (Below.refl _ _) nq))
        go_wp2
        go_end0
        exact ⟨rfl, HE.out⟩
      case pos =>
        subst hq0
        go_wp2_with fail
        go_quiet (fail)
        have HB2 : Hid (Below wr.heap.size wr (wr.drewN nq)) := Lib.hid (Bl.drewN (Below.refl _ _) nq)
        have hI := HI.out
        have b2 : (wr.drewN nq).cell? ⟨L.S, 2, none⟩ = some (.map (some L.m2)) := hI.st.cells.2.2
        have lS3 : L.S < (wr.drewN nq).heap.size := lSr
        have lg3 : g < (wr.drewN nq).heap.size := lg2
        have hrn : n = (y :: r).length + 1 := by rw [hI.len]; rfl
        have hT : OwnO (wr.drewN nq) L.B (.slice (some ⟨g, o + 1, none⟩) (n - 1) (cap - 1)) (y :: r) := by
          have h1 := hI.own.below HB2.out
          rw [hrn] at h1 ⊢
          exact OwnO.tail h1
        have HTL := Lib.hid hT
        have hyl : (y :: r).length ≤ 900 := by have h1 := hI.sub.length_le; have h2 := HLN.out; simp only [List.length_cons] at h1 ⊢; omega
        have HYL := Lib.hid hyl
        have HST : Hid (∀ W v w2, Below (wr.drewN nq).heap.size (wr.drewN nq) W → OwnR TS w2 W.heap.size v (y :: r) → Below W.heap.size W w2 → ∃ hdc w5, v = hdrV hdc ∧ (Instr.mapUpdate 180 (.map (some L.m2)) (.string f) (hdrV hdc)).run Tryz.prog w2 = .ok () w5 ∧ Hid (DrI L s N f w w5 (hdrV hdc) (n - 1) (F'.put f.data.toList (hdc, y :: r)) (y :: r)) ∧ w2.cell? ⟨L.S, 2, none⟩ = some (.map (some L.m2)) ∧ L.S < w2.heap.size) := Lib.hid fun W v w2 hW hO2 hb2 => by
          have hI := HI.out
          have hB2 := Bl.trans (Bl.trans HB2.out hW) hb2
          have h2 := hI.st.low hB2
          have hOO : OwnO w2 L.B v (y :: r) := OwnO.of_own (hO2.base (Nat.le_trans hI.st.lt.2 (Bl.trans HB2.out hW).size))
          obtain ⟨hdc, rfl⟩ := hdr_ofO hOO
          have hhas : ∃ u, F'.get f.data.toList = some u := by
            have h3 := hI.row
            unfold rowO at h3
            cases hg : F'.get f.data.toList with
            | none => rw [hg] at h3; cases h3
            | some u => exact ⟨u, rfl⟩
          obtain ⟨u, hu⟩ := hhas
          obtain ⟨w5, hr5, h5, hk5⟩ := h2.putF h2.big f HF.out hdc (y :: r) hOO (Nat.le_refl _) (Nat.le_trans (put_has hu) h2.ln.2.2)
          have hO5 : OwnO w5 L.B (hdrV hdc) (y :: r) := h5.rf (f.data.toList, hdc, y :: r) ((Sm.ins_mem _).2 (.inl rfl))
          refine ⟨hdc, w5, rfl, hr5, Lib.hid ⟨?_, ?_, hO5, ?_, fun g' hg' => ?_, ?_, h5, hI.kt.trans ((Kt.of_below hB2).trans hk5)⟩, h2.cells.2.2, h2.lt.1⟩
          · rw [hI.len]; rfl
          · rw [hI.drop]
            show (if lfI s.V x = 0 then _ else _) = _
            rw [if_pos HQN.out.symm]
          · rw [rowO_put, if_pos rfl]
          · rw [rowO_put, if_neg hg', hI.oth g' hg']
          · exact (List.suffix_cons _ _).trans hI.sub
        have hc2 : ¬ cap = 1 := by omega
        have hc3 : ¬ cap - 1 = 0 := by omega
        have hn1 : 1 ≤ n := by omega
        have hn1i : (1 : Int) ≤ (n : Int) := by omega
        have hn4 : n - 1 < n := by omega
        clear hI hT hyl hrn hlr2 a1 d0 lg2 lSr HB2
        generalize wr.drewN nq = W1 at *
        have HCL : Hid (∀ W, Below W1.heap.size W1 W → Calls Tryz.prog 145 #[.slice (some ⟨g, o + 1, none⟩) (n - 1) (cap - 1)] W fun e w' => ∃ v', e = .returned v' ∧ OwnR TS w' W.heap.size v' (y :: r) ∧ Below W.heap.size W w') := Lib.hid fun W hW => CloneSr_any (y :: r) _ W (by have := HYL.out; omega) (HTL.out.below hW).rec
        have hdd : Below W1.heap.size W1 W1.drew := Below.drew (Below.refl _ _)
        go_wp2_with fail
        go_region_law (refine step_goN rfl 145 #[.tmp 37] _ rfl (enters_of Tryz.func145 (by kernel_rfl) rfl) #[.slice (some ⟨g, o + 1, none⟩) (n - 1) (cap - 1)] (by simp [Act.eval, Act.put]) _ (HCL.out _ hdd) ?_; rintro e w2 ⟨cv, rfl, HCO, hb2⟩; refine ⟨_, rfl, ?_⟩; obtain ⟨hdc, w5, rfl, hr5, HS5, b5, lS5⟩ := HST.out _ _ _ hdd HCO hb2; clear HCO hb2)
        all_goals (
          have hI5 := HS5.out
          obtain ⟨hd5, hlk5, hO5⟩ := hI5.st.rowB f HF.out
          have hrow5 : rowO (F'.put f.data.toList (hdc, y :: r)) f = y :: r := hI5.row
          rw [show rowO (RSt.F { s with F := F'.put f.data.toList (hdc, y :: r) }) f = y :: r from hrow5] at hO5
          obtain ⟨a5, c5, hv5, _, _⟩ := hO5.form
          obtain ⟨n5, hn5⟩ : ∃ n5, n5 = (y :: r).length := ⟨_, rfl⟩
          rw [hv5, ← hn5] at hO5
          have hlk6 := hlk5 w5 (Below.refl _ _)
          rw [hv5, ← hn5] at hlk6
          have HN5 : Hid (DrI L s N f w w5 (.slice a5 n5 c5) n5 (F'.put f.data.toList (hdc, y :: r)) (y :: r)) := Lib.hid ⟨hn5, hI5.drop, hO5, hI5.row, hI5.oth, hI5.sub, hI5.st, hI5.kt⟩
          have hlt5 : n5 < n := by have := hI5.len; rw [← hn5] at this; omega
          have d2 : w5.cell? ⟨L.S, 2, none⟩ = some (.map (some L.m2)) := hI5.st.cells.2.2
          have lS6 := hI5.st.lt.1
          clear hI5 hlk5 hrow5 hO5 hv5 hn5 hr5 b5
          go_wp2
          go_roundw
          case rel => exact ⟨_, _, _, _, _, rfl, HN5⟩
          case measure => simp [slLen]; omega)
end Go.Proofs.YtilhonppgedoiaaGreatDoor
namespace Go.Proofs.YtilhonppgedoiaaGreatDoor
open Go.RowKit Go.Sort Go.Maps
/-- the reference's store, told which value its row of what was taken has; the row itself apart. -/
structure StRt (w : World) (L : Loc) (r : RSt) (N : Nat) (tv : Value) : Prop where
  big : N ≤ 1000000000
  ln : r.P.length ≤ N ∧ r.V.length ≤ N ∧ r.F.length ≤ N
  b : L.B ≤ L.S ∧ L.B ≤ L.m0 ∧ L.B ≤ L.m1 ∧ L.B ≤ L.m2
  ne : L.m0 ≠ L.m1 ∧ L.m0 ≠ L.m2 ∧ L.m1 ≠ L.m2
  blk : w.heap[L.S]? = some (.cells #[.map (some L.m0), .map (some L.m1), .map (some L.m2), tv] 188 (0, 0))
  mP : MapS TMs w L.m0 r.P
  mV : MapS TMi w L.m1 r.V
  mF : MapS TMh w L.m2 (hdS r.F)
  rf : ∀ p ∈ r.F, OwnO w L.B (hdrV p.2.1) p.2.2
section
variable {w w' : World} {L : Loc} {r : RSt} {N : Nat} {tv : Value}
theorem StR.open (h : StR w L r N) : ∃ tv, StRt w L r N tv ∧ OwnR TTk w L.B tv r.T := by
  obtain ⟨tv, h1, h2⟩ := h.tv
  exact ⟨tv, ⟨h.big, h.ln, h.b, h.ne, h1, h.mP, h.mV, h.mF, h.rf⟩, h2⟩
theorem StRt.close (h : StRt w L r N tv) {T : List Tkn} (ho : OwnR TTk w L.B tv T) : StR w L { r with T := T } N := ⟨h.big, h.ln, h.b, h.ne, ⟨tv, h.blk, ho⟩, h.mP, h.mV, h.mF, h.rf⟩
theorem StRt.lt (h : StRt w L r N tv) : L.S < w.heap.size ∧ L.B ≤ w.heap.size := ⟨blk_lt h.blk, Nat.le_trans h.b.1 (Nat.le_of_lt (blk_lt h.blk))⟩
theorem StRt.low (h : StRt w L r N tv) (hb : Below w.heap.size w w') : StRt w' L r N tv := ⟨h.big, h.ln, h.b, h.ne, blk_below h.blk hb, h.mP.below hb, h.mV.below hb, h.mF.below hb, fun p hp => (h.rf p hp).below hb⟩
/-- a block of another type has turned. -/
theorem StRt.offT (h : StRt w L r N tv) {row : Option Nat} (hg : w.grownBy w' row) (hn : ∀ g, row = some g → ∃ cur, w.heap[g]? = some (.cells cur 223 (0, 0))) : StRt w' L r N tv := by
  have hm : ∀ {α : Type} {T : Mty α} {b : Nat} {l : Sm α}, MapS T w b l → MapS T w' b l := fun {α T b l} hM => hM.kept hg fun e => by
    obtain ⟨cur, hc⟩ := hn b e.symm
    exact hM.noCells cur _ hc
  refine ⟨h.big, h.ln, h.b, h.ne, (hg.block L.S (blk_lt h.blk) fun e => ?_).trans h.blk, hm h.mP, hm h.mV, hm h.mF, fun p hp => (h.rf p hp).keep fun k e => ?_⟩
  · obtain ⟨cur, hc⟩ := hn L.S e.symm
    rw [h.blk] at hc
    injection hc with hc
    injection hc with _ hc _
    exact absurd hc (by decide)
  · obtain ⟨_, cur, hc⟩ := (ownO_k L.B).blk (h.rf p hp) e
    refine hg.block k (blk_lt hc) fun e1 => ?_
    obtain ⟨cur', hc'⟩ := hn k e1.symm
    rw [hc] at hc'
    injection hc' with hc'
    injection hc' with _ hc' _
    exact absurd hc' (by decide)
theorem StRt.row (h : StRt w L r N tv) {v : Value} {T : List Tkn} (hO : OwnR TTk w L.B v T) (hg : w.grownBy w' v.ownBlock) : StRt w' L r N tv :=
  h.offT hg fun g e => by
    obtain ⟨_, cur, hc⟩ := (ownR_k TTk L.B).blk hO e
    exact ⟨cur, hc⟩
theorem Kt.of_rowT {B : Nat} {v : Value} {l : List Tkn} (hO : OwnR TTk w B v l) (hg : w.grownBy w' v.ownBlock) : Kt B w w' := by
  cases e : v.ownBlock with
  | none => rw [e] at hg; exact Kt.of_below (Gr.below_none hg)
  | some g =>
    rw [e] at hg
    obtain ⟨h1, cur, h2⟩ := (ownR_k TTk B).blk hO e
    refine Kt.of_gr hg h1 ?_
    rintro ⟨cur', t, h3, _, _, _, h4, _⟩
    rw [h2] at h3
    injection h3 with h3
    injection h3 with _ h3 _
    exact h4 h3.symm
/-- the row of what was taken is put back. -/
theorem StRt.put (h : StRt w L r N tv) {a : Option Addr} {n c : Nat} {T : List Tkn} (hO : OwnR TTk w L.B (.slice a n c) T) : StR (w.setCell ⟨L.S, 3, none⟩ (.slice a n c)) L { r with T := T } N ∧ Kt L.B w (w.setCell ⟨L.S, 3, none⟩ (.slice a n c)) := by
  have hg : w.grownBy (w.setCell ⟨L.S, 3, none⟩ (.slice a n c)) (some L.S) := Gr.set (Gr.refl _ _) _ _ (.inl rfl) _
  have hk : ∀ k, k < w.heap.size → k ≠ L.S → (w.setCell ⟨L.S, 3, none⟩ (.slice a n c)).heap[k]? = w.heap[k]? := fun k h1 h2 => hg.block k h1 fun e => h2 (by injection e)
  have hm : ∀ {α : Type} {T : Mty α} {b : Nat} {l : Sm α}, MapS T w b l → MapS T (w.setCell ⟨L.S, 3, none⟩ (.slice a n c)) b l := fun {α T b l} hM => hM.keep (hk b hM.lt fun e => hM.noCells _ _ (e ▸ h.blk))
  refine ⟨⟨h.big, h.ln, h.b, h.ne, ⟨_, blk_set h.blk 3 _, (ownR_k TTk L.B).keep hO fun k e => ?_⟩, hm h.mP, hm h.mV, hm h.mF, fun p hp => (h.rf p hp).keep fun k e => ?_⟩, Kt.of_gr hg h.b.1 ?_⟩
  · obtain ⟨_, cur, hc⟩ := (ownR_k TTk L.B).blk hO e
    refine hk k (blk_lt hc) fun e1 => ?_
    subst e1
    rw [h.blk] at hc
    injection hc with hc
    injection hc with _ hc _
    exact absurd hc (by decide)
  · obtain ⟨_, cur, hc⟩ := (ownO_k L.B).blk (h.rf p hp) e
    refine hk k (blk_lt hc) fun e1 => ?_
    subst e1
    rw [h.blk] at hc
    injection hc with hc
    injection hc with _ hc _
    exact absurd hc (by decide)
  · rintro ⟨cur', t, h3, _, _, h4, _⟩
    rw [h.blk] at h3
    injection h3 with h3
    injection h3 with _ h3 _
    exact h4 h3.symm
end
theorem takeO_succ {n : Nat} {left : Lf} {l : List ByteArray} {x : ByteArray} {r : List ByteArray} {lg : List (ByteArray × Int)} (h : dropE left l = x :: r) : takeO (n + 1) left l lg = takeO n (updL left x (left x - 1)) (x :: r) (addT lg x) := by
  rw [takeO, h]
/-- where the reference's use stands: so many are taken. -/
structure UrI (L : Loc) (s : RSt) (N : Nat) (i : Int) (e : Fed) (l : List ByteArray) (T : Lf × List ByteArray × List (ByteArray × Int)) (w wr : World) (j m : Nat) (left : Lf) (l' : List ByteArray) (lg : List (ByteArray × Int)) (s' : RSt) : Prop where
  jm : (j : Int) + m = e.mn
  tk : takeO m left l' lg = T
  nn : ∀ x, -(j : Int) ≤ left x ∧ left x ≤ 100000
  ne : l' ≠ []
  sf : l' <:+ l
  st : StR wr L s' (N + j)
  lf : lfI s'.V = left
  pt : s'.P = s.P
  rw : ∀ g, rowO s'.F g = if g = e.fd then l' else rowO s.F g
  lT : s'.T = s.T ++ logU i e lg
  lb : lg.length ≤ j ∧ ∀ p ∈ lg, 0 ≤ p.2 ∧ p.2 ≤ j
  kt : Kt L.B w wr
theorem logU_cons (i : Int) (e : Fed) (x : ByteArray) (n : Int) (lg : List (ByteArray × Int)) : logU i e ((x, n) :: lg) = logU i e lg ++ [(i, e.at, e.bd, e.fd, x, n)] := by
  unfold logU
  rw [List.reverse_cons, List.map_append]
  rfl
theorem addT_few {lg : List (ByteArray × Int)} {x : ByteArray} {j : Nat} (h : lg.length ≤ j ∧ ∀ p ∈ lg, 0 ≤ p.2 ∧ p.2 ≤ j) : (addT lg x).length ≤ j + 1 ∧ ∀ p ∈ addT lg x, 0 ≤ p.2 ∧ p.2 ≤ ((j + 1 : Nat) : Int) := by
  have hall : ∀ p ∈ lg, 0 ≤ p.2 ∧ p.2 ≤ ((j + 1 : Nat) : Int) := fun p hp => by have := h.2 p hp; omega
  have hnew : ((x, 1) :: lg).length ≤ j + 1 ∧ ∀ p ∈ (x, (1 : Int)) :: lg, 0 ≤ p.2 ∧ p.2 ≤ ((j + 1 : Nat) : Int) := ⟨by have := h.1; simp only [List.length_cons]; omega, fun p hp => by
    rcases List.mem_cons.1 hp with rfl | hp
    · simp only; omega
    · exact hall p hp⟩
  cases lg with
  | nil => exact hnew
  | cons q r =>
    obtain ⟨y, m⟩ := q
    rw [addT]
    split
    · refine ⟨by have := h.1; simp only [List.length_cons] at this ⊢; omega, fun p hp => ?_⟩
      rcases List.mem_cons.1 hp with rfl | hp
      · have := h.2 (y, m) (List.mem_cons_self ..); simp only at this ⊢; omega
      · exact hall p (List.mem_cons_of_mem _ hp)
    · exact hnew
set_option maxHeartbeats 16000000 in
set_option maxRecDepth 100000 in
theorem ruse_any (L : Loc) (s : RSt) (N n : Nat) (A : Mdl) (i : Int) (e : Fed) (w : World) (h : StR w L s N) (hN : N + 200000 ≤ 1000000000) (hR : RelR s A) (hI : InvM A n) (hn : n ≤ 900) (he : FedR e) (h4 : e.kd = 4) (hrf : refM A e = 0) (hev : ∀ t ∈ A.log, t.1 ≠ i) :
    Calls Tryz.prog 146 #[.pointer (some ⟨L.S, 0, none⟩), .int .i64 i, fedV e] w fun r w' => r = .returned (.tuple #[]) ∧ ∃ s', StR w' L s' (N + 200000) ∧ RelR s' (doM A i e) ∧ Kt L.B w w' := by
  obtain ⟨at', kd, fd, rk, mn, bd⟩ := e
  have hk4 : kd = 4 := h4
  subst hk4
  have hfd : fd.size ≤ maxLen := Nat.le_trans he.fd (by unfold maxLen; omega)
  have hm1 : 1 ≤ mn := he.use rfl
  have hm2 : mn ≤ 100000 := he.m1
  obtain ⟨w1, hw1⟩ : ∃ w1, w1 = w.alloc (.cells #[.int .i64 at', .int .i64 4, .string fd, .string rk, .int .i64 mn, .string bd] 37) := ⟨_, rfl⟩
  have hb1 : Below w.heap.size w w1 := by rw [hw1]; exact Bl.alloc (Below.refl _ _) _
  have hx1 : w1.heap[w.heap.size]? = some (.cells #[.int .i64 at', .int .i64 4, .string fd, .string rk, .int .i64 mn, .string bd] 37 (0, 0)) := by rw [hw1]; exact blk_new w _
  have h1 := h.low hb1
  obtain ⟨l, hl⟩ : ∃ l, l = A.row fd := ⟨_, rfl⟩
  rw [refM_4, ← hl] at hrf
  have hl0 : l ≠ [] := fun e => by rw [if_pos e] at hrf; cases hrf
  obtain ⟨T, hT⟩ : ∃ T, T = takeO mn.toNat A.left l [] := ⟨_, rfl⟩
  have hmt : (mn.toNat : Int) = mn := Int.toNat_of_nonneg (by omega)
  have HDO : Hid (doM A i (at', 4, fd, rk, mn, bd) = ⟨T.1, A.part, updR A.row fd T.2.1, posU A.pos l T.2.1, A.log ++ logU i (at', 4, fd, rk, mn, bd) T.2.2⟩) := Lib.hid (by
    unfold doM
    rw [if_neg (by show ¬ ((4 : Int) = 1 ∨ (4 : Int) = 2); omega), if_neg (by show ¬ (4 : Int) = 3; omega), if_pos (show (4 : Int) = 4 from rfl), hT, hl]
    rfl)
  have HI0 : Hid (UrI L s N i (at', 4, fd, rk, mn, bd) l T w1 w1 0 mn.toNat A.left l [] s) := Lib.hid ⟨by show ((0 : Nat) : Int) + _ = mn; omega, hT.symm, fun x => by have := hI.lf x; omega, hl0, List.suffix_refl _, h1, hR.left, rfl, fun g => by
      by_cases hg : g = fd
      · rw [if_pos hg, hg, hR.row, hl]
      · rw [if_neg hg], by unfold logU; simp, ⟨Nat.le_refl _, fun p hp => by simp at hp⟩, Kt.refl _ _⟩
  have HX1 := Lib.hid hx1
  have HB1 := Lib.hid hb1
  have HRR := Lib.hid hR
  have HII := Lib.hid hI
  have HN := Lib.hid hN
  have HFD := Lib.hid hfd
  have HM := Lib.hid (And.intro hm1 (And.intro hm2 hmt))
  have HNN := Lib.hid hn
  have HEV := Lib.hid hev
  have hll : l.length ≤ 900 := by rw [hl]; exact Nat.le_trans (hI.ln fd) hn
  have HLL := Lib.hid hll
  have HNM : Hid (∀ x ∈ l, x.size ≤ maxLen) := Lib.hid fun x hx => Nat.le_trans (hI.sz fd x (by rw [← hl]; exact hx)) (by unfold maxLen; omega)
  have x4 : w1.cell? ⟨w.heap.size, 4, none⟩ = some (.int .i64 mn) := blk_cell hx1 4
  have lS := h1.lt.1
  have lx := blk_lt hx1
  change Calls _ _ #[_, _, .agg #[.int .i64 at', .int .i64 4, .string fd, .string rk, .int .i64 mn, .string bd]] _ _
  clear h h1 hx1 hb1 hl hl0 hN hR hI he hfd hn hrf hev h4 hT hmt hll
  go_enter Tryz.func146, Tryz.ntmps146
  go_wp2_with fail
  rw [← hw1]
  clear hw1
  go_wp2_with fail
  clear x4 lS lx
  go_loopw [10] (fun v wr => ∃ (j m : Nat) (left : Lf) (l' : List ByteArray) (lg : List (ByteArray × Int)) (s' : RSt), v = .int .i64 j ∧ j ≤ mn.toNat ∧ Hid (UrI L s N i (at', 4, fd, rk, mn, bd) l T w1 wr j m left l' lg s')) (fun v _ => mn.toNat - (intOf v).toNat)
  case atStart => exact ⟨0, _, _, _, _, _, rfl, Nat.zero_le _, HI0⟩
  case round =>
    obtain ⟨j, m, left, l', lg, s', rfl, hjm, HI⟩ := hrel
    have hI := HI.out
    have hxb := hI.kt.fix HX1.out (by decide)
    have lxr := blk_lt hxb
    have lSr := hI.st.lt.1
    have x2 : wr.cell? ⟨w.heap.size, 2, none⟩ = some (.string fd) := blk_cell hxb 2
    have hj1 : (j : Int) + m = mn := hI.jm
    have hrow : rowO s'.F fd = l' := by rw [hI.rw, if_pos rfl]
    have HDR := Lib.hid (drop_any L s' (N + j) fd wr hI.st HFD.out (by rw [hrow]; intro y hy; exact HNM.out y (hI.sf.subset hy)) (by rw [hrow]; exact Nat.le_trans hI.sf.length_le HLL.out))
    rw [hrow, hI.lf] at HDR
    have HXB := Lib.hid hxb
    have HMT := Lib.hid HM.out.2.2
    by_cases hm0 : m = 0
    case pos =>
      subst hm0
      have hjn : ¬ (j : Int) < mn := by omega
      have HTE : Hid (T = (left, dropE left l', lg)) := Lib.hid (by rw [← hI.tk]; rfl)
      clear hI hxb hrow
      go_wp2_with fail
      refine HDR.out.mono ?_
      rintro e w4 ⟨rfl, F', h4, hF', hk4⟩
      have HE : Hid (∃ s', StR w4 L s' (N + 200000) ∧ RelR s' (doM A i (at', 4, fd, rk, mn, bd)) ∧ Kt L.B w w4) := Lib.hid (by
        have hI := HI.out
        refine ⟨_, h4.mono (by have := HM.out.2.1; omega) HN.out, ?_, (Kt.of_below HB1.out).trans (hI.kt.trans hk4)⟩
        rw [HDO.out, HTE.out]
        refine ⟨hI.lf, fun x => ?_, fun g => ?_, ?_⟩
        · show ptR s'.P x = _
          rw [hI.pt]; exact HRR.out.part x
        · show rowO F' g = updR A.row fd (dropE left l') g
          rw [hF']
          unfold updR
          by_cases hg : g = fd
          · rw [if_pos hg, if_pos hg]
          · rw [if_neg hg, if_neg hg, hI.rw, if_neg hg]; exact HRR.out.row g
        · show s'.T = _
          rw [hI.lT, HRR.out.log])
      clear h4 hF' hk4 HDR
      go_wp2
      go_end0
      exact ⟨rfl, HE.out⟩
    obtain ⟨m', rfl⟩ : ∃ m', m = m' + 1 := ⟨m - 1, by omega⟩
    have hjn : (j : Int) < mn := by omega
    obtain ⟨x, r, hxr⟩ : ∃ x r, dropE left l' = x :: r := by
      cases hd : dropE left l' with
      | nil => exact absurd hd (dropE_some hI.ne)
      | cons x r => exact ⟨x, r, rfl⟩
    rw [hxr] at HDR
    have hsx : (x :: r) <:+ l := by rw [← hxr]; exact (dropE_suffix _ _).trans hI.sf
    have hxs := HNM.out x (hsx.subset (by simp))
    have hlx := hI.nn x
    have HTK : Hid (takeO m' (updL left x (left x - 1)) (x :: r) (addT lg x) = T) := Lib.hid (by rw [← hI.tk, takeO_succ hxr])
    have HXS := Lib.hid hxs
    have HSX := Lib.hid hsx
    obtain ⟨qn, hqn⟩ : ∃ qn, qn = left x := ⟨_, rfl⟩
    rw [← hqn] at hlx
    have HQN := Lib.hid hqn
    have hjb : j ≤ 100000 := by have := HM.out.2.1; omega
    have hw1 : IntKind.i64.wrap (qn - 1) = qn - 1 := IntWalk.i64_in _ (by omega)
    have hw2 : IntKind.i64.wrap ((j : Int) + 1) = ((j + 1 : Nat) : Int) := by rw [IntWalk.i64_in _ (by omega)]; omega
    clear hI hxb hrow hxr hsx hxs hqn
    go_wp2_with fail
    refine HDR.out.mono ?_
    rintro e w2 ⟨rfl, F2, h2, hF2, hk2⟩
    have HK2 := Lib.hid (HI.out.kt.trans hk2)
    have hxb2 := hk2.fix HXB.out (by decide)
    have hrow2 : rowO F2 fd = x :: r := by rw [hF2, if_pos rfl]
    obtain ⟨hd2, hlk2, hO2⟩ := h2.rowB fd HFD.out
    rw [show rowO (RSt.F { s' with F := F2 }) fd = x :: r from hrow2] at hO2
    obtain ⟨g, o, cap, hv2, d0⟩ := hO2.at (k := 0) rfl
    rw [Nat.add_zero] at d0
    obtain ⟨ln, hln⟩ : ∃ ln, ln = (x :: r).length := ⟨_, rfl⟩
    have hlp : 0 < ln := by rw [hln]; simp
    rw [hv2, ← hln] at hlk2
    have hlk3 : ∀ m, (Instr.lookup 180 (.map (some L.m2)) (.string fd) false).run Tryz.prog (w2.drewN m) = .ok (.slice (some ⟨g, o, none⟩) ln cap) (w2.drewN m) := fun m => hlk2 _ (Bl.drewN (Below.refl _ _) m)
    have a2 : w2.cell? ⟨L.S, 2, none⟩ = some (.map (some L.m2)) := h2.cells.2.2
    have y2 : w2.cell? ⟨w.heap.size, 2, none⟩ = some (.string fd) := blk_cell hxb2 2
    have lg2 := World.block_lt_of_cell? _ _ d0
    simp only at lg2
    have lS2 := h2.lt.1
    have lx2 := blk_lt hxb2
    have H2 := Lib.hid (And.intro h2 (And.intro hF2 hxb2))
    clear h2 hF2 hk2 hxb2 hrow2 hlk2 hO2 hv2 hln HDR x2 lxr lSr
    go_wp2_with fail
    go_quiet (fail)
    have HB3 : Hid (Below w2.heap.size w2 (w2.drewN nq)) := Lib.hid (Bl.drewN (Below.refl _ _) _)
    have h3 := H2.out.1.low HB3.out
    have hlq := h3.leftB x HXS.out _ (Below.refl _ _)
    rw [show lfI (RSt.V { s' with F := F2 }) x = qn by rw [HQN.out, ← HI.out.lf]] at hlq
    obtain ⟨w4, hr4, h4, hk4⟩ := h3.putV (by have := HN.out; omega) x HXS.out (qn - 1)
    have b1 : (w2.drewN nq).cell? ⟨L.S, 1, none⟩ = some (.map (some L.m1)) := h3.cells.2.1
    have lS3 := h3.lt.1
    obtain ⟨s4, hs4⟩ : ∃ s4 : RSt, s4 = { s' with F := F2, V := s'.V.put x.data.toList (qn - 1) } := ⟨_, rfl⟩
    obtain ⟨M, hM⟩ : ∃ M, M = N + j + 1 := ⟨_, rfl⟩
    have h4' : StR w4 L s4 M := by rw [hs4, hM]; exact h4
    obtain ⟨tv, ht4, ho4⟩ := h4'.open
    have hT4 : s4.T = A.log ++ logU i (at', 4, fd, rk, mn, bd) lg := by rw [hs4]; show s'.T = _; rw [HI.out.lT, HRR.out.log]
    have HT4 := Lib.hid (And.intro ht4 (And.intro ho4 (And.intro hT4 (And.intro hs4 hM))))
    have HK4 := Lib.hid (HK2.out.trans ((Kt.of_below HB3.out).trans hk4))
    have hx4 := HK4.out.fix HX1.out (by decide)
    have HX4 := Lib.hid hx4
    obtain ⟨ta, tc, htv, _, _⟩ := ho4.form
    obtain ⟨tl, htl⟩ : ∃ tl, tl = s4.T.length := ⟨_, rfl⟩
    rw [← htl] at htv
    subst htv
    have c3 : w4.cell? ⟨L.S, 3, none⟩ = some (.slice ta tl tc) := blk_cell ht4.blk 3
    have htlb : tl ≤ 910000 := by
      have h5 := HII.out.ll
      have h6 : n * n ≤ 900 * 900 := Nat.mul_le_mul HNN.out HNN.out
      have h7 := HI.out.lb.1
      rw [htl, hT4]
      unfold logU
      rw [List.length_append, List.length_map, List.length_reverse]
      omega
    have lS4 := ht4.lt.1
    have lx4 := blk_lt hx4
    have HTL := Lib.hid htl
    clear hlk3 a2 y2 d0 lg2 lS2 lx2 h3 h4 h4' hk4 hs4 hM ht4 ho4 hT4 hx4 htl
    generalize w2.drewN nq = w3 at *
    have hF2 := H2.out.2.1
    have HNX : Hid (∀ w5 T', StR w5 L { s4 with T := T' } M → Kt L.B w4 w5 → T' = A.log ++ logU i (at', 4, fd, rk, mn, bd) (addT lg x) → UrI L s N i (at', 4, fd, rk, mn, bd) l T w1 w5 (j + 1) m' (updL left x (left x - 1)) (x :: r) (addT lg x) { s4 with T := T' }) := Lib.hid fun w5 T' h5 hk5 hT5 => by
      have hI := HI.out
      have hs4 := HT4.out.2.2.2.1
      refine ⟨by show ((j + 1 : Nat) : Int) + m' = mn; omega, HTK.out, fun y => ?_, by simp, HSX.out, by rw [show N + (j + 1) = M by rw [HT4.out.2.2.2.2]; omega]; exact h5, ?_, ?_, fun g' => ?_, ?_, addT_few hI.lb, HK4.out.trans hk5⟩
      · have h1 := hI.nn y
        have h2 := hI.nn x
        unfold updL
        split <;> omega
      · show lfI s4.V = _
        rw [hs4]
        show lfI (s'.V.put _ _) = _
        rw [lfI_put, hI.lf, HQN.out]
      · show s4.P = _
        rw [hs4]
        exact hI.pt
      · show rowO s4.F g' = if g' = fd then _ else _
        rw [hs4]
        show rowO F2 g' = _
        rw [H2.out.2.1]
        by_cases hg : g' = fd
        · rw [if_pos hg, if_pos hg]
        · rw [if_neg hg, if_neg hg, hI.rw, if_neg hg]
      · show T' = _
        rw [hT5, HRR.out.log]
    clear hF2
    -- what was taken last
    have HLAST : Hid ((∃ q lg', lg = q :: lg' ∧ q.1 = x) ∨ (addT lg x = (x, 1) :: lg ∧ (tl = 0 ∨ ∃ k0 t, tl = k0 + 1 ∧ s4.T[k0]? = some t ∧ (t.1 ≠ i ∨ t.2.2.2.2.1 ≠ x)))) := Lib.hid (by
      have hT4 := HT4.out.2.2.1
      cases lg with
      | nil =>
        refine .inr ⟨rfl, ?_⟩
        by_cases h0 : tl = 0
        · exact .inl h0
        · obtain ⟨k0, hk0⟩ : ∃ k0, tl = k0 + 1 := ⟨tl - 1, by omega⟩
          have hlt : k0 < s4.T.length := by rw [← HTL.out]; omega
          refine .inr ⟨k0, s4.T[k0], hk0, List.getElem?_eq_getElem hlt, .inl (HEV.out _ ?_)⟩
          have : s4.T = A.log := by rw [hT4]; unfold logU; simp
          rw [← this]
          exact List.getElem_mem _
      | cons q lg' =>
        obtain ⟨y, mm⟩ := q
        by_cases hy : y = x
        · exact .inl ⟨_, _, rfl, hy⟩
        · refine .inr ⟨by rw [addT, if_neg hy], .inr ?_⟩
          have hT5 : s4.T = (A.log ++ logU i (at', 4, fd, rk, mn, bd) lg') ++ [(i, at', bd, fd, y, mm)] := by rw [hT4, logU_cons, List.append_assoc]
          have hlen : tl = (A.log ++ logU i (at', 4, fd, rk, mn, bd) lg').length + 1 := by rw [HTL.out, hT5, List.length_append]; rfl
          exact ⟨_, (i, at', bd, fd, y, mm), hlen, by rw [hT5]; simp, .inr hy⟩)
    rcases HLAST.out with ⟨⟨y, mm⟩, lg', hlg, hyx⟩ | ⟨hadd, hno⟩
    case inl =>
      have hyx2 : y = x := hyx
      subst hyx2
      subst hlg
      have hT5 : s4.T = (A.log ++ logU i (at', 4, fd, rk, mn, bd) lg') ++ [(i, at', bd, fd, y, mm)] := by rw [HT4.out.2.2.1, logU_cons, List.append_assoc]
      obtain ⟨k0, hk0⟩ : ∃ k0, k0 = (A.log ++ logU i (at', 4, fd, rk, mn, bd) lg').length := ⟨_, rfl⟩
      have hlen : tl = k0 + 1 := by rw [HTL.out, hT5, List.length_append, hk0]; rfl
      have hg0 : s4.T[k0]? = some (i, at', bd, fd, y, mm) := by rw [hT5, hk0]; simp
      obtain ⟨g, cap, cur, hv, hgB, hgb, _⟩ := HT4.out.2.1.blk (fun e => by rw [e] at hT5; simp at hT5)
      injection hv with e1 e2 e3
      subst e1
      obtain ⟨q0, -⟩ := HT4.out.2.1.cellf TTk.ok HTL.out hg0 (fo := 0) (v := .int .i64 i) rfl
      obtain ⟨q4, -⟩ := HT4.out.2.1.cellf TTk.ok HTL.out hg0 (fo := 4) (v := .string y) rfl
      obtain ⟨q5, f5⟩ := HT4.out.2.1.cellf TTk.ok HTL.out hg0 (fo := 5) (v := .int .i64 mm) rfl
      simp only [TTk, Nat.add_zero] at q0 q4 q5 f5
      have hmm := HI.out.lb.2 (y, mm) (List.mem_cons_self ..)
      have hw3 : IntKind.i64.wrap ((tl : Int) - 1) = (k0 : Int) := by rw [IntWalk.i64_in _ (by omega)]; omega
      have hw4 : IntKind.i64.wrap (mm + 1) = mm + 1 := IntWalk.i64_in _ (by simp only at hmm; omega)
      have hk1 : (k0 : Int) < (tl : Int) := by omega
      have hk2 : k0 < tl := by omega
      have lg4 := blk_lt hgb
      have hgrow : w4.grownBy (w4.setCell ⟨g, k0 * 6 + 5, none⟩ (.int .i64 (mm + 1))) (some g) := Gr.set (Gr.refl _ _) _ _ (.inl rfl) _
      have hO5 : OwnR TTk (w4.setCell ⟨g, k0 * 6 + 5, none⟩ (.int .i64 (mm + 1))) L.B (.slice (some ⟨g, 0, none⟩) tl tc) (s4.T.set k0 (i, at', bd, fd, y, mm + 1)) := HT4.out.2.1.setf TTk.ok HTL.out hg0 (fo := 5) (by decide) rfl
      have hS5 := (HT4.out.1.row HT4.out.2.1 hgrow).close hO5
      have HU5 := Lib.hid (HNX.out _ _ hS5 (Kt.of_rowT HT4.out.2.1 hgrow) (by
        rw [addT, if_pos rfl, logU_cons, hT5, List.set_append_right _ _ (by omega), ← hk0, Nat.sub_self, List.append_assoc]
        rfl))
      clear hT5 hk0 hlen hg0 hgB hgb hmm hgrow hO5 hS5 e2 e3
      go_wp2
      go_roundw
      case rel => exact ⟨j + 1, m', _, _, _, _, by go_num, by omega, HU5⟩
      case measure => simp [intOf]; omega
    case inr =>
      have HADD := Lib.hid hadd
      have HTV : Hid (∀ W, Below w4.heap.size w4 W → W.cell? ⟨L.S, 3, none⟩ = some (.slice ta tl tc)) := Lib.hid fun W hW => blk_cell (blk_below HT4.out.1.blk hW) 3
      have HOO : Hid (OwnR TTk w4 L.B (.slice ta tl tc) s4.T ∧ s4.T.length ≤ 1000000) := Lib.hid ⟨HT4.out.2.1, by rw [← HTL.out]; omega⟩
      have HRD : Hid (∀ W, Kt L.B w4 W → W.cell? ⟨w.heap.size, 0, none⟩ = some (.int .i64 at') ∧ W.cell? ⟨w.heap.size, 2, none⟩ = some (.string fd) ∧ W.cell? ⟨w.heap.size, 5, none⟩ = some (.string bd)) := Lib.hid fun W hK => by
        have hx := hK.fix HX4.out (by decide)
        exact ⟨blk_cell hx 0, blk_cell hx 2, blk_cell hx 5⟩
      have HU5 : Hid (∀ w5, StR w5 L { s4 with T := s4.T ++ [(i, at', bd, fd, x, 1)] } M → Kt L.B w4 w5 → UrI L s N i (at', 4, fd, rk, mn, bd) l T w1 w5 (j + 1) m' (updL left x (left x - 1)) (x :: r) (addT lg x) { s4 with T := s4.T ++ [(i, at', bd, fd, x, 1)] }) := Lib.hid fun w5 h5 hk5 => HNX.out _ _ h5 hk5 (by rw [HADD.out, logU_cons, HT4.out.2.2.1, List.append_assoc])
      clear hadd
      rcases hno with h0 | ⟨k0, t, hlen, hg0, ht⟩
      case inl =>
        have hw3 : IntKind.i64.wrap ((tl : Int) - 1) = -1 := by rw [h0]; rfl
        clear h0
        go_wp2_with fail
        refine wp_region_app (by kernel_rfl) [75, 76, 77, 78, 79, 80, 81, 82, 83, 84, 85, 86, 87, 88, 89, 90, 91, 92] (fun ii => ([some (.pointer (some ⟨L.S, 0, none⟩)), some (.pointer (some ⟨L.S, 0, none⟩)), some (.pointer (some ⟨L.S, 0, none⟩)), some (.pointer (some ⟨L.S, 3, none⟩)), some (.slice ta tl tc), some (.int .i64 i), some (.pointer (some ⟨w.heap.size, 0, none⟩)), some (.int .i64 at'), some (.pointer (some ⟨w.heap.size, 5, none⟩)), some (.string bd), some (.pointer (some ⟨w.heap.size, 2, none⟩)), some (.string fd), some (.string x), some (.agg #[.int .i64 i, .int .i64 at', .string bd, .string fd, .string x, .int .i64 1]), none, none, some (.pointer (some ⟨L.S, 0, none⟩)), some (.pointer (some ⟨L.S, 3, none⟩)), none] : List (Option Value)).getD ii none) 14 15 18 1000 89 90 0
          (fun W => Below w4.heap.size w4 W) (fun W => Hid (StR W L { s4 with T := s4.T ++ [(i, at', bd, fd, x, 1)] } M ∧ Kt L.B w4 W))
          (fun W => W.cell? ⟨w.heap.size, 0, none⟩ = some (.int .i64 at') ∧ W.cell? ⟨w.heap.size, 2, none⟩ = some (.string fd) ∧ W.cell? ⟨w.heap.size, 5, none⟩ = some (.string bd))
          (fun v W => (∃ a n c, v = .slice a n c) ∧ Hid (OwnR TTk W L.B v (s4.T ++ [(i, at', bd, fd, x, 1)]) ∧ StRt W L s4 M (.slice ta tl tc) ∧ Kt L.B w4 W)) (fun v W => ∃ g, v = .slice (some ⟨g, 0, none⟩) 1 1 ∧ W.heap[g]? = some (.cells #[.int .i64 i, .int .i64 at', .string bd, .string fd, .string x, .int .i64 1] 223 (0, 0))) (fun _ _ => True)
          (by kernel_rfl) (by kernel_rfl) (by rfl) (by rfl) (by rfl) (by decide) (by decide) ⟨rfl, rfl, fun h => absurd h (by decide)⟩ rfl rfl rfl (fun h => absurd h (by decide))
          (fun l hcl h => hcl.no h 15 ⟨14, .data⟩ rfl rfl (by simp) rfl) (fun l hcl h => hcl.no h 18 ⟨15, .data⟩ rfl rfl (by simp) rfl) (fun h => absurd h (by decide))
          (fun o ho => by obtain rfl := Option.some.inj ho; exact ⟨⟨⟨14, .data⟩, by simp, rfl, rfl⟩, fun h => absurd h (by decide)⟩) (fun o ho => by obtain rfl := Option.some.inj ho; exact ⟨⟨15, .data⟩, by simp, rfl, rfl⟩)
          (Below.drew (Below.refl _ _)) (fun v W W' ⟨g, h1, h2⟩ hb => ⟨g, h1, blk_below h2 hb⟩) (fun _ _ _ _ _ => trivial) (fun W hW => HRD.out W (Kt.of_below hW)) (fun v W h => HRD.out W h.2.out.2.2) (fun W h => HRD.out W h.out.2) ?_ ?_ (fun h => absurd h (by decide)) ?_ ?_ ?_
        · intro listed f i' o v W ho hc hdep hR hPre hcl hli hV
          obtain ⟨r1, r2, r3⟩ := hR
          match i', ho, hc with
          | 0, ho, hc =>
            obtain rfl := Option.some.inj ho
            obtain rfl := Option.some.inj hc
            refine ⟨rfl, fun q hq => ?_⟩
            have e0 := hq.tmp 0
            simp at e0
            simp [execOp, e0, go_sem]
          | 1, ho, hc =>
            obtain rfl := Option.some.inj ho
            obtain rfl := Option.some.inj hc
            refine ⟨rfl, fun q hq => ?_⟩
            have e0 := hq.tmp 0
            simp at e0
            simp [execOp, e0, go_sem]
          | 2, ho, hc =>
            obtain rfl := Option.some.inj ho
            obtain rfl := Option.some.inj hc
            refine ⟨rfl, fun q hq => ?_⟩
            have e76 := hq.tmp 76
            simp at e76
            have d76 : f 76 = .pointer (some ⟨L.S, 0, none⟩) := hV 1 _ (by decide) (hdep ⟨1, .data⟩ (by simp) rfl) rfl
            simp [execOp, e76, d76, go_sem]
          | 3, ho, hc =>
            obtain rfl := Option.some.inj ho
            obtain rfl := Option.some.inj hc
            refine ⟨rfl, fun q hq => ?_⟩
            have e77 := hq.tmp 77
            simp at e77
            have d77 : f 77 = .pointer (some ⟨L.S, 0, none⟩) := hV 2 _ (by decide) (hdep ⟨2, .data⟩ (by simp) rfl) rfl
            simp [execOp, e77, d77, go_sem]
          | 4, ho, hc =>
            obtain rfl := Option.some.inj ho
            obtain rfl := Option.some.inj hc
            refine ⟨rfl, fun q hq => ?_⟩
            have e78 := hq.tmp 78
            simp at e78
            have d78 : f 78 = .pointer (some ⟨L.S, 3, none⟩) := hV 3 _ (by decide) (hdep ⟨3, .data⟩ (by simp) rfl) rfl
            have hlk : W.cell? ⟨L.S, 3, none⟩ = some (.slice ta tl tc) := HTV.out W (hPre (hcl.no hli 15 ⟨4, .data⟩ rfl rfl (by simp) rfl))
            simp [execOp, e78, d78, hlk, go_sem]
          | 5, ho, hc =>
            obtain rfl := Option.some.inj ho
            obtain rfl := Option.some.inj hc
            refine ⟨rfl, fun q hq => ?_⟩
            have e1 := hq.tmp 1
            simp at e1
            simp [execOp, e1, go_sem]
          | 6, ho, hc =>
            obtain rfl := Option.some.inj ho
            obtain rfl := Option.some.inj hc
            refine ⟨rfl, fun q hq => ?_⟩
            have e5 := hq.tmp 5
            simp at e5
            simp [execOp, e5, go_sem]
          | 7, ho, hc =>
            obtain rfl := Option.some.inj ho
            obtain rfl := Option.some.inj hc
            refine ⟨rfl, fun q hq => ?_⟩
            have e81 := hq.tmp 81
            simp at e81
            have d81 : f 81 = .pointer (some ⟨w.heap.size, 0, none⟩) := hV 6 _ (by decide) (hdep ⟨6, .data⟩ (by simp) rfl) rfl
            simp [execOp, e81, d81, r1, go_sem]
          | 8, ho, hc =>
            obtain rfl := Option.some.inj ho
            obtain rfl := Option.some.inj hc
            refine ⟨rfl, fun q hq => ?_⟩
            have e5 := hq.tmp 5
            simp at e5
            simp [execOp, e5, go_sem]
          | 9, ho, hc =>
            obtain rfl := Option.some.inj ho
            obtain rfl := Option.some.inj hc
            refine ⟨rfl, fun q hq => ?_⟩
            have e83 := hq.tmp 83
            simp at e83
            have d83 : f 83 = .pointer (some ⟨w.heap.size, 5, none⟩) := hV 8 _ (by decide) (hdep ⟨8, .data⟩ (by simp) rfl) rfl
            simp [execOp, e83, d83, r3, go_sem]
          | 10, ho, hc =>
            obtain rfl := Option.some.inj ho
            obtain rfl := Option.some.inj hc
            refine ⟨rfl, fun q hq => ?_⟩
            have e5 := hq.tmp 5
            simp at e5
            simp [execOp, e5, go_sem]
          | 11, ho, hc =>
            obtain rfl := Option.some.inj ho
            obtain rfl := Option.some.inj hc
            refine ⟨rfl, fun q hq => ?_⟩
            have e85 := hq.tmp 85
            simp at e85
            have d85 : f 85 = .pointer (some ⟨w.heap.size, 2, none⟩) := hV 10 _ (by decide) (hdep ⟨10, .data⟩ (by simp) rfl) rfl
            simp [execOp, e85, d85, r2, go_sem]
          | 12, ho, hc =>
            obtain rfl := Option.some.inj ho
            obtain rfl := Option.some.inj hc
            refine ⟨rfl, fun q hq => ?_⟩
            have e6 := hq.tmp 6
            simp at e6
            simp [execOp, e6, go_sem]
          | 13, ho, hc =>
            obtain rfl := Option.some.inj ho
            obtain rfl := Option.some.inj hc
            refine ⟨rfl, fun q hq => ?_⟩
            have e80 := hq.tmp 80
            simp at e80
            have d80 : f 80 = .int .i64 i := hV 5 _ (by decide) (hdep ⟨5, .data⟩ (by simp) rfl) rfl
            have e82 := hq.tmp 82
            simp at e82
            have d82 : f 82 = .int .i64 at' := hV 7 _ (by decide) (hdep ⟨7, .data⟩ (by simp) rfl) rfl
            have e84 := hq.tmp 84
            simp at e84
            have d84 : f 84 = .string bd := hV 9 _ (by decide) (hdep ⟨9, .data⟩ (by simp) rfl) rfl
            have e86 := hq.tmp 86
            simp at e86
            have d86 : f 86 = .string fd := hV 11 _ (by decide) (hdep ⟨11, .data⟩ (by simp) rfl) rfl
            have e87 := hq.tmp 87
            simp at e87
            have d87 : f 87 = .string x := hV 12 _ (by decide) (hdep ⟨12, .data⟩ (by simp) rfl) rfl
            simp [execOp, e80, d80, e82, d82, e84, d84, e86, d86, e87, d87, hq.const, go_sem]
          | 16, ho, hc =>
            obtain rfl := Option.some.inj ho
            obtain rfl := Option.some.inj hc
            refine ⟨rfl, fun q hq => ?_⟩
            have e75 := hq.tmp 75
            simp at e75
            have d75 : f 75 = .pointer (some ⟨L.S, 0, none⟩) := hV 0 _ (by decide) (hdep ⟨0, .data⟩ (by simp) rfl) rfl
            simp [execOp, e75, d75, go_sem]
          | 17, ho, hc =>
            obtain rfl := Option.some.inj ho
            obtain rfl := Option.some.inj hc
            refine ⟨rfl, fun q hq => ?_⟩
            have e91 := hq.tmp 91
            simp at e91
            have d91 : f 91 = .pointer (some ⟨L.S, 0, none⟩) := hV 16 _ (by decide) (hdep ⟨16, .data⟩ (by simp) rfl) rfl
            simp [execOp, e91, d91, go_sem]
          | 14, ho, hc => exact absurd hc (by simp)
          | 15, ho, hc => exact absurd hc (by simp)
          | 18, ho, hc => exact absurd hc (by simp)
          | (_ + 19), ho, hc => exact absurd hc (by simp)
        · intro listed f o W ho hdep hP hV
          obtain rfl := Option.some.inj ho
          have hbA := Bl.alloc (Below.refl W.heap.size W) (.cells #[.int .i64 i, .int .i64 at', .string bd, .string fd, .string x, .int .i64 1] 223)
          refine ⟨rfl, .slice (some ⟨W.heap.size, 0, none⟩) 1 1, W.alloc (.cells #[.int .i64 i, .int .i64 at', .string bd, .string fd, .string x, .int .i64 1] 223), fun q hq => ?_, Bl.trans hP hbA, ⟨W.heap.size, rfl, blk_new W _⟩, hbA⟩
          have e88 := hq.tmp 88
          simp at e88
          have d88 : f 88 = .agg #[.int .i64 i, .int .i64 at', .string bd, .string fd, .string x, .int .i64 1] := hV 13 _ (by decide) (hdep ⟨13, .data⟩ (by simp) rfl) rfl
          simp [execOp, e88, d88, go_sem]
        · intro listed f o W ho hdep hP hS _ hV
          obtain rfl := Option.some.inj ho
          obtain ⟨g, hg1, hg2⟩ := hS
          have d79 : f 79 = .slice ta tl tc := hV 4 _ (by decide) (hdep ⟨4, .data⟩ (by simp) rfl) rfl
          refine ⟨rfl, fun K hK => ?_⟩
          obtain ⟨v', w', hr, h2, h3, h4⟩ := (HOO.out.1.below hP).app TTk.ok 186 g 1 (i, at', bd, fd, x, 1) hg2 rfl HOO.out.2 (Nat.le_trans HT4.out.1.lt.2 hP.size)
          refine oper_append (.tmp 79) (.tmp 89) 186 rfl (.slice ta tl tc) (.slice (some ⟨g, 0, none⟩) 1 1) v' (by rw [← d79]; simp [putsA_eval]) (by rw [← hg1]; simp [putsA_eval]) hr (hK v' w' ?_)
          refine ⟨(by obtain ⟨a, c, h, _, _⟩ := h2.form; exact ⟨a, _, c, h⟩), Lib.hid ⟨h2, (HT4.out.1.low hP).row (HOO.out.1.below hP) h3, (Kt.of_below hP).trans (Kt.of_rowT (HOO.out.1.below hP) h3)⟩⟩
        · intro listed f o W ho hdep hMid hV
          obtain rfl := Option.some.inj ho
          obtain ⟨⟨a9, n9, c9, e9⟩, hF⟩ := hMid
          have hF1 := hF.out
          rw [e9] at hF1
          have hS1 := hF1.2.1.put hF1.1
          have c3 : W.cell? ⟨L.S, 3, none⟩ = some (.slice ta tl tc) := blk_cell hF1.2.1.blk 3
          have f3 := blk_free hF1.2.1.blk 3
          refine ⟨rfl, W.setCell ⟨L.S, 3, none⟩ (.slice a9 n9 c9), fun q hq => ?_, Lib.hid ⟨hS1.1, hF1.2.2.trans hS1.2⟩⟩
          have e92 := hq.tmp 92
          have e90 := hq.tmp 90
          simp at e92 e90
          have d92 : f 92 = .pointer (some ⟨L.S, 3, none⟩) := hV 17 _ (by decide) (hdep ⟨17, .data⟩ (by simp) rfl) rfl
          simp [execOp, e92, e90, d92, e9, c3, f3, go_sem]
        intro f w5 hP hV
        clear hV
        unfold putsA
        simp only [List.mapIdx_toArray, List.mapIdx_cons, List.mapIdx_nil, List.contains_cons]
        simp
        have HF5 := Lib.hid (HU5.out _ hP.out.1 hP.out.2)
        clear hP
        go_wp2_with fail
        go_roundw
        case rel => exact ⟨j + 1, m', _, _, _, _, by go_num, by omega, HF5⟩
        case measure => simp [intOf]; omega
      case' inr =>
        obtain ⟨gT, cap, cur, hv, hgB, hgb, _⟩ := HT4.out.2.1.blk (fun e => by rw [e] at hg0; simp at hg0)
        injection hv with e1 e2 e3
        subst e1
        obtain ⟨q0, -⟩ := HT4.out.2.1.cellf TTk.ok HTL.out hg0 (fo := 0) (v := .int .i64 t.1) rfl
        obtain ⟨q4, -⟩ := HT4.out.2.1.cellf TTk.ok HTL.out hg0 (fo := 4) (v := .string t.2.2.2.2.1) rfl
        simp only [TTk, Nat.add_zero] at q0 q4
        have hw3 : IntKind.i64.wrap ((tl : Int) - 1) = (k0 : Int) := by rw [IntWalk.i64_in _ (by omega)]; omega
        have hk1 : (k0 : Int) < (tl : Int) := by omega
        have hk2 : k0 < tl := by omega
        have lg4 := blk_lt hgb
        obtain ⟨te, hte⟩ : ∃ te, te = t.1 := ⟨_, rfl⟩
        obtain ⟨tr, htr⟩ : ∃ tr, tr = t.2.2.2.2.1 := ⟨_, rfl⟩
        rw [← hte] at q0 ht
        rw [← htr] at q4 ht
        clear hgB hgb e2 e3 hte htr hg0 hlen
        by_cases hti : te = i
        case' pos =>
          have htx : ¬ tr.toList = x.toList := fun h => (ht.resolve_left (fun h2 => h2 hti)) ((ba_eq_iff _ _).1 h)
          have htb : (tr.toList == x.toList) = false := by simpa using htx
          have hti2 : i = te := hti.symm
          subst hti2
          clear ht
          go_wp2_with fail
        case' neg =>
          have htb : (te == i) = false := by simp [hti]
          clear ht
          go_wp2_with fail
      all_goals (
        refine wp_region_app (by kernel_rfl) [75, 76, 77, 78, 79, 80, 81, 82, 83, 84, 85, 86, 87, 88, 89, 90, 91, 92] (fun ii => ([some (.pointer (some ⟨L.S, 0, none⟩)), some (.pointer (some ⟨L.S, 0, none⟩)), some (.pointer (some ⟨L.S, 0, none⟩)), some (.pointer (some ⟨L.S, 3, none⟩)), some (.slice (some ⟨gT, 0, none⟩) tl tc), some (.int .i64 i), some (.pointer (some ⟨w.heap.size, 0, none⟩)), some (.int .i64 at'), some (.pointer (some ⟨w.heap.size, 5, none⟩)), some (.string bd), some (.pointer (some ⟨w.heap.size, 2, none⟩)), some (.string fd), some (.string x), some (.agg #[.int .i64 i, .int .i64 at', .string bd, .string fd, .string x, .int .i64 1]), none, none, some (.pointer (some ⟨L.S, 0, none⟩)), some (.pointer (some ⟨L.S, 3, none⟩)), none] : List (Option Value)).getD ii none) 14 15 18 1000 89 90 0
          (fun W => Below w4.heap.size w4 W) (fun W => Hid (StR W L { s4 with T := s4.T ++ [(i, at', bd, fd, x, 1)] } M ∧ Kt L.B w4 W))
          (fun W => W.cell? ⟨w.heap.size, 0, none⟩ = some (.int .i64 at') ∧ W.cell? ⟨w.heap.size, 2, none⟩ = some (.string fd) ∧ W.cell? ⟨w.heap.size, 5, none⟩ = some (.string bd))
          (fun v W => (∃ a n c, v = .slice a n c) ∧ Hid (OwnR TTk W L.B v (s4.T ++ [(i, at', bd, fd, x, 1)]) ∧ StRt W L s4 M (.slice (some ⟨gT, 0, none⟩) tl tc) ∧ Kt L.B w4 W)) (fun v W => ∃ g, v = .slice (some ⟨g, 0, none⟩) 1 1 ∧ W.heap[g]? = some (.cells #[.int .i64 i, .int .i64 at', .string bd, .string fd, .string x, .int .i64 1] 223 (0, 0))) (fun _ _ => True)
          (by kernel_rfl) (by kernel_rfl) (by rfl) (by rfl) (by rfl) (by decide) (by decide) ⟨rfl, rfl, fun h => absurd h (by decide)⟩ rfl rfl rfl (fun h => absurd h (by decide))
          (fun l hcl h => hcl.no h 15 ⟨14, .data⟩ rfl rfl (by simp) rfl) (fun l hcl h => hcl.no h 18 ⟨15, .data⟩ rfl rfl (by simp) rfl) (fun h => absurd h (by decide))
          (fun o ho => by obtain rfl := Option.some.inj ho; exact ⟨⟨⟨14, .data⟩, by simp, rfl, rfl⟩, fun h => absurd h (by decide)⟩) (fun o ho => by obtain rfl := Option.some.inj ho; exact ⟨⟨15, .data⟩, by simp, rfl, rfl⟩)
          (Below.drew (Below.refl _ _)) (fun v W W' ⟨g, h1, h2⟩ hb => ⟨g, h1, blk_below h2 hb⟩) (fun _ _ _ _ _ => trivial) (fun W hW => HRD.out W (Kt.of_below hW)) (fun v W h => HRD.out W h.2.out.2.2) (fun W h => HRD.out W h.out.2) ?_ ?_ (fun h => absurd h (by decide)) ?_ ?_ ?_
        · intro listed f i' o v W ho hc hdep hR hPre hcl hli hV
          obtain ⟨r1, r2, r3⟩ := hR
          match i', ho, hc with
          | 0, ho, hc =>
            obtain rfl := Option.some.inj ho
            obtain rfl := Option.some.inj hc
            refine ⟨rfl, fun q hq => ?_⟩
            have e0 := hq.tmp 0
            simp at e0
            simp [execOp, e0, go_sem]
          | 1, ho, hc =>
            obtain rfl := Option.some.inj ho
            obtain rfl := Option.some.inj hc
            refine ⟨rfl, fun q hq => ?_⟩
            have e0 := hq.tmp 0
            simp at e0
            simp [execOp, e0, go_sem]
          | 2, ho, hc =>
            obtain rfl := Option.some.inj ho
            obtain rfl := Option.some.inj hc
            refine ⟨rfl, fun q hq => ?_⟩
            have e76 := hq.tmp 76
            simp at e76
            have d76 : f 76 = .pointer (some ⟨L.S, 0, none⟩) := hV 1 _ (by decide) (hdep ⟨1, .data⟩ (by simp) rfl) rfl
            simp [execOp, e76, d76, go_sem]
          | 3, ho, hc =>
            obtain rfl := Option.some.inj ho
            obtain rfl := Option.some.inj hc
            refine ⟨rfl, fun q hq => ?_⟩
            have e77 := hq.tmp 77
            simp at e77
            have d77 : f 77 = .pointer (some ⟨L.S, 0, none⟩) := hV 2 _ (by decide) (hdep ⟨2, .data⟩ (by simp) rfl) rfl
            simp [execOp, e77, d77, go_sem]
          | 4, ho, hc =>
            obtain rfl := Option.some.inj ho
            obtain rfl := Option.some.inj hc
            refine ⟨rfl, fun q hq => ?_⟩
            have e78 := hq.tmp 78
            simp at e78
            have d78 : f 78 = .pointer (some ⟨L.S, 3, none⟩) := hV 3 _ (by decide) (hdep ⟨3, .data⟩ (by simp) rfl) rfl
            have hlk : W.cell? ⟨L.S, 3, none⟩ = some (.slice (some ⟨gT, 0, none⟩) tl tc) := HTV.out W (hPre (hcl.no hli 15 ⟨4, .data⟩ rfl rfl (by simp) rfl))
            simp [execOp, e78, d78, hlk, go_sem]
          | 5, ho, hc =>
            obtain rfl := Option.some.inj ho
            obtain rfl := Option.some.inj hc
            refine ⟨rfl, fun q hq => ?_⟩
            have e1 := hq.tmp 1
            simp at e1
            simp [execOp, e1, go_sem]
          | 6, ho, hc =>
            obtain rfl := Option.some.inj ho
            obtain rfl := Option.some.inj hc
            refine ⟨rfl, fun q hq => ?_⟩
            have e5 := hq.tmp 5
            simp at e5
            simp [execOp, e5, go_sem]
          | 7, ho, hc =>
            obtain rfl := Option.some.inj ho
            obtain rfl := Option.some.inj hc
            refine ⟨rfl, fun q hq => ?_⟩
            have e81 := hq.tmp 81
            simp at e81
            have d81 : f 81 = .pointer (some ⟨w.heap.size, 0, none⟩) := hV 6 _ (by decide) (hdep ⟨6, .data⟩ (by simp) rfl) rfl
            simp [execOp, e81, d81, r1, go_sem]
          | 8, ho, hc =>
            obtain rfl := Option.some.inj ho
            obtain rfl := Option.some.inj hc
            refine ⟨rfl, fun q hq => ?_⟩
            have e5 := hq.tmp 5
            simp at e5
            simp [execOp, e5, go_sem]
          | 9, ho, hc =>
            obtain rfl := Option.some.inj ho
            obtain rfl := Option.some.inj hc
            refine ⟨rfl, fun q hq => ?_⟩
            have e83 := hq.tmp 83
            simp at e83
            have d83 : f 83 = .pointer (some ⟨w.heap.size, 5, none⟩) := hV 8 _ (by decide) (hdep ⟨8, .data⟩ (by simp) rfl) rfl
            simp [execOp, e83, d83, r3, go_sem]
          | 10, ho, hc =>
            obtain rfl := Option.some.inj ho
            obtain rfl := Option.some.inj hc
            refine ⟨rfl, fun q hq => ?_⟩
            have e5 := hq.tmp 5
            simp at e5
            simp [execOp, e5, go_sem]
          | 11, ho, hc =>
            obtain rfl := Option.some.inj ho
            obtain rfl := Option.some.inj hc
            refine ⟨rfl, fun q hq => ?_⟩
            have e85 := hq.tmp 85
            simp at e85
            have d85 : f 85 = .pointer (some ⟨w.heap.size, 2, none⟩) := hV 10 _ (by decide) (hdep ⟨10, .data⟩ (by simp) rfl) rfl
            simp [execOp, e85, d85, r2, go_sem]
          | 12, ho, hc =>
            obtain rfl := Option.some.inj ho
            obtain rfl := Option.some.inj hc
            refine ⟨rfl, fun q hq => ?_⟩
            have e6 := hq.tmp 6
            simp at e6
            simp [execOp, e6, go_sem]
          | 13, ho, hc =>
            obtain rfl := Option.some.inj ho
            obtain rfl := Option.some.inj hc
            refine ⟨rfl, fun q hq => ?_⟩
            have e80 := hq.tmp 80
            simp at e80
            have d80 : f 80 = .int .i64 i := hV 5 _ (by decide) (hdep ⟨5, .data⟩ (by simp) rfl) rfl
            have e82 := hq.tmp 82
            simp at e82
            have d82 : f 82 = .int .i64 at' := hV 7 _ (by decide) (hdep ⟨7, .data⟩ (by simp) rfl) rfl
            have e84 := hq.tmp 84
            simp at e84
            have d84 : f 84 = .string bd := hV 9 _ (by decide) (hdep ⟨9, .data⟩ (by simp) rfl) rfl
            have e86 := hq.tmp 86
            simp at e86
            have d86 : f 86 = .string fd := hV 11 _ (by decide) (hdep ⟨11, .data⟩ (by simp) rfl) rfl
            have e87 := hq.tmp 87
            simp at e87
            have d87 : f 87 = .string x := hV 12 _ (by decide) (hdep ⟨12, .data⟩ (by simp) rfl) rfl
            simp [execOp, e80, d80, e82, d82, e84, d84, e86, d86, e87, d87, hq.const, go_sem]
          | 16, ho, hc =>
            obtain rfl := Option.some.inj ho
            obtain rfl := Option.some.inj hc
            refine ⟨rfl, fun q hq => ?_⟩
            have e75 := hq.tmp 75
            simp at e75
            have d75 : f 75 = .pointer (some ⟨L.S, 0, none⟩) := hV 0 _ (by decide) (hdep ⟨0, .data⟩ (by simp) rfl) rfl
            simp [execOp, e75, d75, go_sem]
          | 17, ho, hc =>
            obtain rfl := Option.some.inj ho
            obtain rfl := Option.some.inj hc
            refine ⟨rfl, fun q hq => ?_⟩
            have e91 := hq.tmp 91
            simp at e91
            have d91 : f 91 = .pointer (some ⟨L.S, 0, none⟩) := hV 16 _ (by decide) (hdep ⟨16, .data⟩ (by simp) rfl) rfl
            simp [execOp, e91, d91, go_sem]
          | 14, ho, hc => exact absurd hc (by simp)
          | 15, ho, hc => exact absurd hc (by simp)
          | 18, ho, hc => exact absurd hc (by simp)
          | (_ + 19), ho, hc => exact absurd hc (by simp)
        · intro listed f o W ho hdep hP hV
          obtain rfl := Option.some.inj ho
          have hbA := Bl.alloc (Below.refl W.heap.size W) (.cells #[.int .i64 i, .int .i64 at', .string bd, .string fd, .string x, .int .i64 1] 223)
          refine ⟨rfl, .slice (some ⟨W.heap.size, 0, none⟩) 1 1, W.alloc (.cells #[.int .i64 i, .int .i64 at', .string bd, .string fd, .string x, .int .i64 1] 223), fun q hq => ?_, Bl.trans hP hbA, ⟨W.heap.size, rfl, blk_new W _⟩, hbA⟩
          have e88 := hq.tmp 88
          simp at e88
          have d88 : f 88 = .agg #[.int .i64 i, .int .i64 at', .string bd, .string fd, .string x, .int .i64 1] := hV 13 _ (by decide) (hdep ⟨13, .data⟩ (by simp) rfl) rfl
          simp [execOp, e88, d88, go_sem]
        · intro listed f o W ho hdep hP hS _ hV
          obtain rfl := Option.some.inj ho
          obtain ⟨g, hg1, hg2⟩ := hS
          have d79 : f 79 = .slice (some ⟨gT, 0, none⟩) tl tc := hV 4 _ (by decide) (hdep ⟨4, .data⟩ (by simp) rfl) rfl
          refine ⟨rfl, fun K hK => ?_⟩
          obtain ⟨v', w', hr, h2, h3, h4⟩ := (HOO.out.1.below hP).app TTk.ok 186 g 1 (i, at', bd, fd, x, 1) hg2 rfl HOO.out.2 (Nat.le_trans HT4.out.1.lt.2 hP.size)
          refine oper_append (.tmp 79) (.tmp 89) 186 rfl (.slice (some ⟨gT, 0, none⟩) tl tc) (.slice (some ⟨g, 0, none⟩) 1 1) v' (by rw [← d79]; simp [putsA_eval]) (by rw [← hg1]; simp [putsA_eval]) hr (hK v' w' ?_)
          refine ⟨(by obtain ⟨a, c, h, _, _⟩ := h2.form; exact ⟨a, _, c, h⟩), Lib.hid ⟨h2, (HT4.out.1.low hP).row (HOO.out.1.below hP) h3, (Kt.of_below hP).trans (Kt.of_rowT (HOO.out.1.below hP) h3)⟩⟩
        · intro listed f o W ho hdep hMid hV
          obtain rfl := Option.some.inj ho
          obtain ⟨⟨a9, n9, c9, e9⟩, hF⟩ := hMid
          have hF1 := hF.out
          rw [e9] at hF1
          have hS1 := hF1.2.1.put hF1.1
          have c3 : W.cell? ⟨L.S, 3, none⟩ = some (.slice (some ⟨gT, 0, none⟩) tl tc) := blk_cell hF1.2.1.blk 3
          have f3 := blk_free hF1.2.1.blk 3
          refine ⟨rfl, W.setCell ⟨L.S, 3, none⟩ (.slice a9 n9 c9), fun q hq => ?_, Lib.hid ⟨hS1.1, hF1.2.2.trans hS1.2⟩⟩
          have e92 := hq.tmp 92
          have e90 := hq.tmp 90
          simp at e92 e90
          have d92 : f 92 = .pointer (some ⟨L.S, 3, none⟩) := hV 17 _ (by decide) (hdep ⟨17, .data⟩ (by simp) rfl) rfl
          simp [execOp, e92, e90, d92, e9, c3, f3, go_sem]
        intro f w5 hP hV
        clear hV
        unfold putsA
        simp only [List.mapIdx_toArray, List.mapIdx_cons, List.mapIdx_nil, List.contains_cons]
        simp
        have HF5 := Lib.hid (HU5.out _ hP.out.1 hP.out.2)
        clear hP
        go_wp2_with fail
        go_roundw
        case rel => exact ⟨j + 1, m', _, _, _, _, by go_num, by omega, HF5⟩
        case measure => simp [intOf]; omega)
end Go.Proofs.YtilhonppgedoiaaGreatDoor
namespace Go.Proofs.YtilhonppgedoiaaGreatDoor
open Go.RowKit Go.Sort Go.Maps
theorem RelR.put {s : RSt} {A : Mdl} (h : RelR s A) {e : Fed} (i : Int) (hk : e.kd = 1 ∨ e.kd = 2) (hd : Hdr) : RelR { s with F := s.F.put e.fd.data.toList (hd, A.row e.fd ++ [e.rl]) } (doM A i e) := by
  unfold doM
  rw [if_pos hk]
  refine ⟨h.left, h.part, fun g => ?_, h.log⟩
  show rowO (s.F.put _ _) g = updR A.row e.fd (A.row e.fd ++ [e.rl]) g
  rw [rowO_put]
  unfold updR
  split
  · rfl
  · exact h.row g
theorem RelR.unload {s : RSt} {A : Mdl} (h : RelR s A) {e : Fed} (i : Int) (hk : e.kd = 3) : RelR { s with F := s.F.del e.fd.data.toList } (doM A i e) := by
  unfold doM
  rw [if_neg (by omega), if_pos hk]
  refine ⟨h.left, h.part, fun g => ?_, h.log⟩
  show rowO (s.F.del _) g = updR A.row e.fd [] g
  rw [rowO_del]
  unfold updR
  split
  · rfl
  · exact h.row g
theorem RelR.count {s : RSt} {A : Mdl} (h : RelR s A) {e : Fed} (i : Int) (hk : e.kd = 5) : RelR { s with V := s.V.put e.rl.data.toList e.mn } (doM A i e) := by
  unfold doM
  rw [if_neg (by omega), if_neg (by omega), if_neg (by omega)]
  refine ⟨?_, h.part, h.row, h.log⟩
  show lfI (s.V.put _ _) = _
  rw [lfI_put, h.left]
set_option maxHeartbeats 16000000 in
set_option maxRecDepth 100000 in
theorem rdo_any (L : Loc) (s : RSt) (N n : Nat) (A : Mdl) (i : Int) (e : Fed) (w : World) (h : StR w L s N) (hN : N + 200000 ≤ 1000000000) (hR : RelR s A) (hI : InvM A n) (hn : n ≤ 900) (he : FedR e) (hev : ∀ t ∈ A.log, t.1 ≠ i) :
    Calls Tryz.prog 104 #[.pointer (some ⟨L.S, 0, none⟩), .int .i64 i, fedV e] w fun r w' => r = .returned (.int .i64 (refM A e)) ∧ ∃ s', StR w' L s' (N + 200000) ∧ RelR s' (stepM A i e) ∧ Kt L.B w w' := by
  have HE := Lib.hid he
  obtain ⟨at', kd, fd, rk, mn, bd⟩ := e
  have hfd : fd.size ≤ maxLen := Nat.le_trans he.fd (by unfold maxLen; omega)
  have hrk : rk.size ≤ maxLen := Nat.le_trans he.rl (by unfold maxLen; omega)
  have hk : kd = 1 ∨ kd = 2 ∨ kd = 3 ∨ kd = 4 ∨ kd = 5 := by have h1 : 1 ≤ kd := he.k1; have h2 : kd ≤ 5 := he.k5; omega
  obtain ⟨w1, hw1⟩ : ∃ w1, w1 = w.alloc (.cells #[.int .i64 at', .int .i64 kd, .string fd, .string rk, .int .i64 mn, .string bd] 37) := ⟨_, rfl⟩
  have hb1 : Below w.heap.size w w1 := by rw [hw1]; exact Bl.alloc (Below.refl _ _) _
  have hx1 : w1.heap[w.heap.size]? = some (.cells #[.int .i64 at', .int .i64 kd, .string fd, .string rk, .int .i64 mn, .string bd] 37 (0, 0)) := by rw [hw1]; exact blk_new w _
  have h1 := h.low hb1
  obtain ⟨l, hl⟩ : ∃ l, l = A.row fd := ⟨_, rfl⟩
  have hST : stepM A i (at', kd, fd, rk, mn, bd) = if refM A (at', kd, fd, rk, mn, bd) = 0 then doM A i (at', kd, fd, rk, mn, bd) else A := rfl
  have HRE := Lib.hid (refuses_any L s N n A (at', kd, fd, rk, mn, bd) w1 h1 hR hI hn he)
  have H1 := Lib.hid h1
  have HX1 := Lib.hid hx1
  have HB1 := Lib.hid hb1
  have HRR := Lib.hid hR
  have HII := Lib.hid hI
  have HST := Lib.hid hST
  have HL := Lib.hid hl
  have HN := Lib.hid hN
  have HFD := Lib.hid hfd
  have HRK := Lib.hid hrk
  have HNN := Lib.hid hn
  have HEV := Lib.hid hev
  have HLL : Hid (l.length ≤ 900) := Lib.hid (by rw [hl]; exact Nat.le_trans (hI.ln fd) hn)
  have x0 : w1.cell? ⟨w.heap.size, 0, none⟩ = some (.int .i64 at') := blk_cell hx1 0
  have x1 : w1.cell? ⟨w.heap.size, 1, none⟩ = some (.int .i64 kd) := blk_cell hx1 1
  have x2 : w1.cell? ⟨w.heap.size, 2, none⟩ = some (.string fd) := blk_cell hx1 2
  have x3 : w1.cell? ⟨w.heap.size, 3, none⟩ = some (.string rk) := blk_cell hx1 3
  have x4 : w1.cell? ⟨w.heap.size, 4, none⟩ = some (.int .i64 mn) := blk_cell hx1 4
  have x5 : w1.cell? ⟨w.heap.size, 5, none⟩ = some (.string bd) := blk_cell hx1 5
  have lS := h1.lt.1
  have lx := blk_lt hx1
  have HW : Hid (∀ W, Below w1.heap.size w1 W → W.cell? ⟨L.S, 1, none⟩ = some (.map (some L.m1)) ∧ W.cell? ⟨L.S, 2, none⟩ = some (.map (some L.m2)) ∧ W.cell? ⟨w.heap.size, 0, none⟩ = some (.int .i64 at') ∧ W.cell? ⟨w.heap.size, 1, none⟩ = some (.int .i64 kd) ∧ W.cell? ⟨w.heap.size, 2, none⟩ = some (.string fd) ∧ W.cell? ⟨w.heap.size, 3, none⟩ = some (.string rk) ∧ W.cell? ⟨w.heap.size, 4, none⟩ = some (.int .i64 mn) ∧ W.cell? ⟨w.heap.size, 5, none⟩ = some (.string bd) ∧ L.S < W.heap.size ∧ w.heap.size < W.heap.size) := Lib.hid fun W hW => by
    have h2 := h1.low hW
    have h3 := blk_below hx1 hW
    exact ⟨h2.cells.2.1, h2.cells.2.2, blk_cell h3 0, blk_cell h3 1, blk_cell h3 2, blk_cell h3 3, blk_cell h3 4, blk_cell h3 5, h2.lt.1, blk_lt h3⟩
  have HNO : Hid (∀ W R, Below w1.heap.size w1 W → refM A (at', kd, fd, rk, mn, bd) = R → R ≠ 0 → ∃ s', StR W L s' (N + 200000) ∧ RelR s' (stepM A i (at', kd, fd, rk, mn, bd)) ∧ Kt L.B w W) := Lib.hid fun W R hW e1 e2 => by
    refine ⟨s, (h1.low hW).mono (by omega) hN, ?_, (Kt.of_below hb1).trans (Kt.of_below hW)⟩
    rw [hST, e1, if_neg e2]
    exact hR
  change Calls _ _ #[_, _, .agg #[.int .i64 at', .int .i64 kd, .string fd, .string rk, .int .i64 mn, .string bd]] _ _
  change Hid (Calls _ _ #[_, .agg #[.int .i64 at', .int .i64 kd, .string fd, .string rk, .int .i64 mn, .string bd]] _ _) at HRE
  clear h h1 hx1 hb1 hl hN hR hI he hfd hrk hn hST hev
  obtain ⟨RF, hRF⟩ : ∃ RF, RF = refM A (at', kd, fd, rk, mn, bd) := ⟨_, rfl⟩
  rw [← hRF] at HRE ⊢
  have HRF := Lib.hid hRF
  clear hRF
  by_cases hr0 : RF = 0
  case neg =>
    have hrb : (RF == 0) = false := by simp [hr0]
    have HR0 := Lib.hid hr0
    go_enter Tryz.func104, Tryz.ntmps104
    go_wp2_with fail
    rw [← hw1]
    clear hw1
    go_wp2_with fail
    refine HRE.out.mono ?_
    rintro r w3 ⟨rfl, hb3⟩
    have HB3 := Lib.hid hb3
    clear hb3
    go_wp2
    go_ret
    exact ⟨rfl, HNO.out _ _ HB3.out HRF.out.symm HR0.out⟩
  have HR0 : Hid (refM A (at', kd, fd, rk, mn, bd) = 0) := Lib.hid (by rw [← HRF.out]; exact hr0)
  subst hr0
  rcases hk with rfl | rfl | rfl | rfl | rfl
  all_goals (
    go_enter Tryz.func104, Tryz.ntmps104
    go_wp2_with fail
    rw [← hw1]
    clear hw1
    go_wp2_with fail
    refine HRE.out.mono ?_
    rintro r w3 ⟨rfl, hb3⟩
    clear x0 x1 x2 x3 x4 x5 lS lx HRE
    have HB3 := Lib.hid hb3
    have H3 := Lib.hid (H1.out.low hb3)
    obtain ⟨c1, c2, x0, x1, x2, x3, x4, x5, lS, lx⟩ := HW.out _ hb3
    have HX3 := Lib.hid (blk_below HX1.out hb3)
    have HKT : Hid (∀ W, Kt L.B w3 W → Kt L.B w W) := Lib.hid fun W hW => (Kt.of_below HB1.out).trans ((Kt.of_below HB3.out).trans hW)
    clear hb3)
  · have HRP : Hid (∀ hd, RelR { s with F := s.F.put fd.data.toList (hd, l ++ [rk]) } (doM A i (at', 1, fd, rk, mn, bd))) := Lib.hid fun hd => by
      rw [HL.out]; exact HRR.out.put (e := (at', 1, fd, rk, mn, bd)) i (.inl rfl) hd
    obtain ⟨hd, hlk, hO⟩ := H3.out.rowB fd HFD.out
    rw [HRR.out.row, ← HL.out] at hO
    have HLK := Lib.hid hlk
    have HRD : Hid (∀ W, Kt L.B w3 W → W.cell? ⟨L.S, 2, none⟩ = some (.map (some L.m2)) → W.cell? ⟨L.S, 2, none⟩ = some (.map (some L.m2)) ∧ W.cell? ⟨w.heap.size, 2, none⟩ = some (.string fd) ∧ W.cell? ⟨w.heap.size, 3, none⟩ = some (.string rk)) := Lib.hid fun W hK hS => by
      have hx := hK.fix HX3.out (by decide)
      exact ⟨hS, blk_cell hx 2, blk_cell hx 3⟩
    have HCL : Hid (∀ W, Below w3.heap.size w3 W → Calls Tryz.prog 145 #[hdrV hd] W fun e w' => ∃ v', e = .returned v' ∧ OwnR TS w' W.heap.size v' l ∧ Below W.heap.size W w') := Lib.hid fun W hW => CloneSr_any l _ W (by have := HLL.out; omega) (hO.below hW).rec
    clear hlk
    go_wp2_with fail
    refine wp_region_app (by kernel_rfl) [27, 28, 29, 30, 31, 32, 33, 34, 35, 36, 37, 38, 39, 40, 41, 42, 43, 44] (fun ii => ([some (.pointer (some ⟨L.S, 0, none⟩)), some (.pointer (some ⟨L.S, 0, none⟩)), some (.pointer (some ⟨L.S, 2, none⟩)), some (.map (some L.m2)), some (.pointer (some ⟨w.heap.size, 2, none⟩)), some (.string fd), some (.pointer (some ⟨L.S, 0, none⟩)), some (.pointer (some ⟨L.S, 0, none⟩)), some (.pointer (some ⟨L.S, 2, none⟩)), some (.map (some L.m2)), some (.pointer (some ⟨w.heap.size, 2, none⟩)), some (.string fd), some (hdrV hd), none, some (.pointer (some ⟨w.heap.size, 3, none⟩)), some (.string rk), none, none, none] : List (Option Value)).getD ii none) 16 17 18 13 43 44 40
      (fun W => Below w3.heap.size w3 W) (fun W => Hid ((∃ hd4, StR W L { s with F := s.F.put fd.data.toList (hd4, l ++ [rk]) } (N + 1)) ∧ Kt L.B w3 W))
      (fun W => W.cell? ⟨L.S, 2, none⟩ = some (.map (some L.m2)) ∧ W.cell? ⟨w.heap.size, 2, none⟩ = some (.string fd) ∧ W.cell? ⟨w.heap.size, 3, none⟩ = some (.string rk))
      (fun v W => ∃ hd4, v = hdrV hd4 ∧ Hid (OwnR TS W w3.heap.size v (l ++ [rk]) ∧ Below w3.heap.size w3 W)) (fun v W => ∃ g, v = .slice (some ⟨g, 0, none⟩) 1 1 ∧ W.heap[g]? = some (.cells #[.string rk] 9 (0, 0))) (fun v W => OwnR TS W w3.heap.size v l)
      (by kernel_rfl) (by kernel_rfl) (by rfl) (by rfl) (by rfl) (by decide) (by decide) ⟨rfl, rfl, fun _ => rfl⟩ rfl rfl rfl (fun _ => rfl)
      (fun l hcl h => hcl.no h 17 ⟨16, .data⟩ rfl rfl (by simp) rfl) (fun l hcl h => hcl.no h 18 ⟨17, .data⟩ rfl rfl (by simp) rfl) (fun _ l hcl h => hcl.no h 17 ⟨13, .data⟩ rfl rfl (by simp) rfl)
      (fun o ho => by obtain rfl := Option.some.inj ho; exact ⟨⟨⟨16, .data⟩, by simp, rfl, rfl⟩, fun _ => ⟨⟨13, .data⟩, by simp, rfl, rfl⟩⟩) (fun o ho => by obtain rfl := Option.some.inj ho; exact ⟨⟨17, .data⟩, by simp, rfl, rfl⟩)
      (Below.drew (Below.refl _ _)) (fun v W W' ⟨g, h1, h2⟩ hb => ⟨g, h1, blk_below h2 hb⟩) (fun v W W' h hb => h.below hb) (fun W hW => HRD.out W (Kt.of_below hW) (H3.out.low hW).cells.2.2) (fun v W h => h.elim fun hd4 h2 => HRD.out W (Kt.of_below h2.2.out.2) (H3.out.low h2.2.out.2).cells.2.2) (fun W h => (h.out.1.elim fun hd4 h4 => HRD.out W h.out.2 h4.cells.2.2)) ?_ ?_ ?_ ?_ ?_ ?_
    · intro listed f i' o v W ho hc hdep hR hPre hcl hli hV
      obtain ⟨r1, r2, r3⟩ := hR
      match i', ho, hc with
      | 0, ho, hc =>
        obtain rfl := Option.some.inj ho
        obtain rfl := Option.some.inj hc
        refine ⟨rfl, fun q hq => ?_⟩
        have e0 := hq.tmp 0
        simp at e0
        simp [execOp, e0, go_sem]
      | 1, ho, hc =>
        obtain rfl := Option.some.inj ho
        obtain rfl := Option.some.inj hc
        refine ⟨rfl, fun q hq => ?_⟩
        have e27 := hq.tmp 27
        simp at e27
        have d27 : f 27 = .pointer (some ⟨L.S, 0, none⟩) := hV 0 _ (by decide) (hdep ⟨0, .data⟩ (by simp) rfl) rfl
        simp [execOp, e27, d27, go_sem]
      | 2, ho, hc =>
        obtain rfl := Option.some.inj ho
        obtain rfl := Option.some.inj hc
        refine ⟨rfl, fun q hq => ?_⟩
        have e28 := hq.tmp 28
        simp at e28
        have d28 : f 28 = .pointer (some ⟨L.S, 0, none⟩) := hV 1 _ (by decide) (hdep ⟨1, .data⟩ (by simp) rfl) rfl
        simp [execOp, e28, d28, go_sem]
      | 3, ho, hc =>
        obtain rfl := Option.some.inj ho
        obtain rfl := Option.some.inj hc
        refine ⟨rfl, fun q hq => ?_⟩
        have e29 := hq.tmp 29
        simp at e29
        have d29 : f 29 = .pointer (some ⟨L.S, 2, none⟩) := hV 2 _ (by decide) (hdep ⟨2, .data⟩ (by simp) rfl) rfl
        simp [execOp, e29, d29, r1, go_sem]
      | 4, ho, hc =>
        obtain rfl := Option.some.inj ho
        obtain rfl := Option.some.inj hc
        refine ⟨rfl, fun q hq => ?_⟩
        have e5 := hq.tmp 5
        simp at e5
        simp [execOp, e5, go_sem]
      | 5, ho, hc =>
        obtain rfl := Option.some.inj ho
        obtain rfl := Option.some.inj hc
        refine ⟨rfl, fun q hq => ?_⟩
        have e31 := hq.tmp 31
        simp at e31
        have d31 : f 31 = .pointer (some ⟨w.heap.size, 2, none⟩) := hV 4 _ (by decide) (hdep ⟨4, .data⟩ (by simp) rfl) rfl
        simp [execOp, e31, d31, r2, go_sem]
      | 6, ho, hc =>
        obtain rfl := Option.some.inj ho
        obtain rfl := Option.some.inj hc
        refine ⟨rfl, fun q hq => ?_⟩
        have e0 := hq.tmp 0
        simp at e0
        simp [execOp, e0, go_sem]
      | 7, ho, hc =>
        obtain rfl := Option.some.inj ho
        obtain rfl := Option.some.inj hc
        refine ⟨rfl, fun q hq => ?_⟩
        have e33 := hq.tmp 33
        simp at e33
        have d33 : f 33 = .pointer (some ⟨L.S, 0, none⟩) := hV 6 _ (by decide) (hdep ⟨6, .data⟩ (by simp) rfl) rfl
        simp [execOp, e33, d33, go_sem]
      | 8, ho, hc =>
        obtain rfl := Option.some.inj ho
        obtain rfl := Option.some.inj hc
        refine ⟨rfl, fun q hq => ?_⟩
        have e34 := hq.tmp 34
        simp at e34
        have d34 : f 34 = .pointer (some ⟨L.S, 0, none⟩) := hV 7 _ (by decide) (hdep ⟨7, .data⟩ (by simp) rfl) rfl
        simp [execOp, e34, d34, go_sem]
      | 9, ho, hc =>
        obtain rfl := Option.some.inj ho
        obtain rfl := Option.some.inj hc
        refine ⟨rfl, fun q hq => ?_⟩
        have e35 := hq.tmp 35
        simp at e35
        have d35 : f 35 = .pointer (some ⟨L.S, 2, none⟩) := hV 8 _ (by decide) (hdep ⟨8, .data⟩ (by simp) rfl) rfl
        simp [execOp, e35, d35, r1, go_sem]
      | 10, ho, hc =>
        obtain rfl := Option.some.inj ho
        obtain rfl := Option.some.inj hc
        refine ⟨rfl, fun q hq => ?_⟩
        have e5 := hq.tmp 5
        simp at e5
        simp [execOp, e5, go_sem]
      | 11, ho, hc =>
        obtain rfl := Option.some.inj ho
        obtain rfl := Option.some.inj hc
        refine ⟨rfl, fun q hq => ?_⟩
        have e37 := hq.tmp 37
        simp at e37
        have d37 : f 37 = .pointer (some ⟨w.heap.size, 2, none⟩) := hV 10 _ (by decide) (hdep ⟨10, .data⟩ (by simp) rfl) rfl
        simp [execOp, e37, d37, r2, go_sem]
      | 12, ho, hc =>
        obtain rfl := Option.some.inj ho
        obtain rfl := Option.some.inj hc
        refine ⟨rfl, fun q hq => ?_⟩
        have e36 := hq.tmp 36
        simp at e36
        have d36 : f 36 = .map (some L.m2) := hV 9 _ (by decide) (hdep ⟨9, .data⟩ (by simp) rfl) rfl
        have e38 := hq.tmp 38
        simp at e38
        have d38 : f 38 = .string fd := hV 11 _ (by decide) (hdep ⟨11, .data⟩ (by simp) rfl) rfl
        have hlk := HLK.out W (hPre (hcl.no (hcl.no hli 13 ⟨12, .data⟩ rfl rfl (by simp) rfl) 17 ⟨13, .data⟩ rfl rfl (by simp) rfl))
        simp [execOp, e36, d36, e38, d38, hlk, go_sem]
      | 14, ho, hc =>
        obtain rfl := Option.some.inj ho
        obtain rfl := Option.some.inj hc
        refine ⟨rfl, fun q hq => ?_⟩
        have e5 := hq.tmp 5
        simp at e5
        simp [execOp, e5, go_sem]
      | 15, ho, hc =>
        obtain rfl := Option.some.inj ho
        obtain rfl := Option.some.inj hc
        refine ⟨rfl, fun q hq => ?_⟩
        have e41 := hq.tmp 41
        simp at e41
        have d41 : f 41 = .pointer (some ⟨w.heap.size, 3, none⟩) := hV 14 _ (by decide) (hdep ⟨14, .data⟩ (by simp) rfl) rfl
        simp [execOp, e41, d41, r3, go_sem]
      | 13, ho, hc => exact absurd hc (by simp)
      | 16, ho, hc => exact absurd hc (by simp)
      | 17, ho, hc => exact absurd hc (by simp)
      | 18, ho, hc => exact absurd hc (by simp)
      | (_ + 19), ho, hc => exact absurd hc (by simp)
    · intro listed f o W ho hdep hP hV
      obtain rfl := Option.some.inj ho
      have hbA := Bl.alloc (Below.refl W.heap.size W) (.cells #[.string rk] 9)
      refine ⟨rfl, .slice (some ⟨W.heap.size, 0, none⟩) 1 1, W.alloc (.cells #[.string rk] 9), fun q hq => ?_, Bl.trans hP hbA, ⟨W.heap.size, rfl, blk_new W _⟩, hbA⟩
      have e42 := hq.tmp 42
      simp at e42
      have d42 : f 42 = .string rk := hV 15 _ (by decide) (hdep ⟨15, .data⟩ (by simp) rfl) rfl
      simp [execOp, e42, d42, go_sem]
    · intro _ listed f o W ho hdep hP hV
      obtain rfl := Option.some.inj ho
      have d39 : f 39 = hdrV hd := hV 12 _ (by decide) (hdep ⟨12, .data⟩ (by simp) rfl) rfl
      refine ⟨rfl, fun K hK => ?_⟩
      refine oper_call rfl 145 #[.tmp 39] _ rfl (enters_of Tryz.func145 (by kernel_rfl) rfl) #[hdrV hd] (by rw [← d39]; simp [putsA_eval]) _ (HCL.out W hP) ?_
      rintro e w' ⟨cv, rfl, h1, h2⟩
      exact ⟨cv, rfl, hK cv w' (Bl.trans hP h2) (h1.base hP.size) h2⟩
    · intro listed f o W ho hdep hP hS hC hV
      obtain rfl := Option.some.inj ho
      obtain ⟨g, hg1, hg2⟩ := hS
      have hC1 := hC (by decide)
      refine ⟨rfl, fun K hK => ?_⟩
      obtain ⟨v', w', hr, h2, h3, h4⟩ := hC1.app TS.ok 63 g 1 rk hg2 rfl (by have := HLL.out; omega) hP.size
      refine oper_append (.tmp 40) (.tmp 43) 63 rfl (f 40) (.slice (some ⟨g, 0, none⟩) 1 1) v' (by simp [putsA_eval]) (by rw [← hg1]; simp [putsA_eval]) hr (hK v' w' ?_)
      obtain ⟨hd4, rfl⟩ := hdr_ofR h2
      exact ⟨hd4, rfl, Lib.hid ⟨h2, Below.trans hP (app_belowR hC1 h3 hP.size)⟩⟩
    · intro listed f o W ho hdep hMid hV
      obtain rfl := Option.some.inj ho
      obtain ⟨hd4, e4, hF⟩ := hMid
      have hF1 := hF.out.1
      rw [e4] at hF1
      obtain ⟨w5, hr5, h5, hk5⟩ := (H3.out.low hF.out.2).putF (M := N + 1) (by have := HN.out; omega) fd HFD.out hd4 (l ++ [rk]) (OwnO.of_own (hF1.base H3.out.lt.2)) (by omega) (Nat.le_trans (Sm.put_le _ _ _) (by have := H3.out.ln.2.2; omega))
      refine ⟨rfl, w5, fun q hq => ?_, Lib.hid ⟨⟨hd4, h5⟩, (Kt.of_below hF.out.2).trans hk5⟩⟩
      have e30 := hq.tmp 30
      have e32 := hq.tmp 32
      have e44 := hq.tmp 44
      simp at e30 e32 e44
      have d30 : f 30 = .map (some L.m2) := hV 3 _ (by decide) (hdep ⟨3, .data⟩ (by simp) rfl) rfl
      have d32 : f 32 = .string fd := hV 5 _ (by decide) (hdep ⟨5, .data⟩ (by simp) rfl) rfl
      simp [execOp, e30, e32, e44, d30, d32, e4, hr5, go_sem]
    intro f w5 hP hV
    clear hV
    unfold putsA
    simp only [List.mapIdx_toArray, List.mapIdx_cons, List.mapIdx_nil, List.contains_cons]
    simp
    obtain ⟨⟨hd4, h5⟩, hk5⟩ := hP.out
    have HF := Lib.hid (And.intro (h5.mono (show N + 1 ≤ N + 200000 by omega) HN.out) (HKT.out _ hk5))
    clear h5 hk5 hP hO
    go_wp2
    go_ret
    exact ⟨rfl, _, HF.out.1, by rw [HST.out, if_pos HR0.out]; exact HRP.out hd4, HF.out.2⟩
  · have HRP : Hid (∀ hd, RelR { s with F := s.F.put fd.data.toList (hd, l ++ [rk]) } (doM A i (at', 2, fd, rk, mn, bd))) := Lib.hid fun hd => by
      rw [HL.out]; exact HRR.out.put (e := (at', 2, fd, rk, mn, bd)) i (.inr rfl) hd
    obtain ⟨hd, hlk, hO⟩ := H3.out.rowB fd HFD.out
    rw [HRR.out.row, ← HL.out] at hO
    have HLK := Lib.hid hlk
    have HRD : Hid (∀ W, Kt L.B w3 W → W.cell? ⟨L.S, 2, none⟩ = some (.map (some L.m2)) → W.cell? ⟨L.S, 2, none⟩ = some (.map (some L.m2)) ∧ W.cell? ⟨w.heap.size, 2, none⟩ = some (.string fd) ∧ W.cell? ⟨w.heap.size, 3, none⟩ = some (.string rk)) := Lib.hid fun W hK hS => by
      have hx := hK.fix HX3.out (by decide)
      exact ⟨hS, blk_cell hx 2, blk_cell hx 3⟩
    have HCL : Hid (∀ W, Below w3.heap.size w3 W → Calls Tryz.prog 145 #[hdrV hd] W fun e w' => ∃ v', e = .returned v' ∧ OwnR TS w' W.heap.size v' l ∧ Below W.heap.size W w') := Lib.hid fun W hW => CloneSr_any l _ W (by have := HLL.out; omega) (hO.below hW).rec
    clear hlk
    go_wp2_with fail
    refine wp_region_app (by kernel_rfl) [27, 28, 29, 30, 31, 32, 33, 34, 35, 36, 37, 38, 39, 40, 41, 42, 43, 44] (fun ii => ([some (.pointer (some ⟨L.S, 0, none⟩)), some (.pointer (some ⟨L.S, 0, none⟩)), some (.pointer (some ⟨L.S, 2, none⟩)), some (.map (some L.m2)), some (.pointer (some ⟨w.heap.size, 2, none⟩)), some (.string fd), some (.pointer (some ⟨L.S, 0, none⟩)), some (.pointer (some ⟨L.S, 0, none⟩)), some (.pointer (some ⟨L.S, 2, none⟩)), some (.map (some L.m2)), some (.pointer (some ⟨w.heap.size, 2, none⟩)), some (.string fd), some (hdrV hd), none, some (.pointer (some ⟨w.heap.size, 3, none⟩)), some (.string rk), none, none, none] : List (Option Value)).getD ii none) 16 17 18 13 43 44 40
      (fun W => Below w3.heap.size w3 W) (fun W => Hid ((∃ hd4, StR W L { s with F := s.F.put fd.data.toList (hd4, l ++ [rk]) } (N + 1)) ∧ Kt L.B w3 W))
      (fun W => W.cell? ⟨L.S, 2, none⟩ = some (.map (some L.m2)) ∧ W.cell? ⟨w.heap.size, 2, none⟩ = some (.string fd) ∧ W.cell? ⟨w.heap.size, 3, none⟩ = some (.string rk))
      (fun v W => ∃ hd4, v = hdrV hd4 ∧ Hid (OwnR TS W w3.heap.size v (l ++ [rk]) ∧ Below w3.heap.size w3 W)) (fun v W => ∃ g, v = .slice (some ⟨g, 0, none⟩) 1 1 ∧ W.heap[g]? = some (.cells #[.string rk] 9 (0, 0))) (fun v W => OwnR TS W w3.heap.size v l)
      (by kernel_rfl) (by kernel_rfl) (by rfl) (by rfl) (by rfl) (by decide) (by decide) ⟨rfl, rfl, fun _ => rfl⟩ rfl rfl rfl (fun _ => rfl)
      (fun l hcl h => hcl.no h 17 ⟨16, .data⟩ rfl rfl (by simp) rfl) (fun l hcl h => hcl.no h 18 ⟨17, .data⟩ rfl rfl (by simp) rfl) (fun _ l hcl h => hcl.no h 17 ⟨13, .data⟩ rfl rfl (by simp) rfl)
      (fun o ho => by obtain rfl := Option.some.inj ho; exact ⟨⟨⟨16, .data⟩, by simp, rfl, rfl⟩, fun _ => ⟨⟨13, .data⟩, by simp, rfl, rfl⟩⟩) (fun o ho => by obtain rfl := Option.some.inj ho; exact ⟨⟨17, .data⟩, by simp, rfl, rfl⟩)
      (Below.drew (Below.refl _ _)) (fun v W W' ⟨g, h1, h2⟩ hb => ⟨g, h1, blk_below h2 hb⟩) (fun v W W' h hb => h.below hb) (fun W hW => HRD.out W (Kt.of_below hW) (H3.out.low hW).cells.2.2) (fun v W h => h.elim fun hd4 h2 => HRD.out W (Kt.of_below h2.2.out.2) (H3.out.low h2.2.out.2).cells.2.2) (fun W h => (h.out.1.elim fun hd4 h4 => HRD.out W h.out.2 h4.cells.2.2)) ?_ ?_ ?_ ?_ ?_ ?_
    · intro listed f i' o v W ho hc hdep hR hPre hcl hli hV
      obtain ⟨r1, r2, r3⟩ := hR
      match i', ho, hc with
      | 0, ho, hc =>
        obtain rfl := Option.some.inj ho
        obtain rfl := Option.some.inj hc
        refine ⟨rfl, fun q hq => ?_⟩
        have e0 := hq.tmp 0
        simp at e0
        simp [execOp, e0, go_sem]
      | 1, ho, hc =>
        obtain rfl := Option.some.inj ho
        obtain rfl := Option.some.inj hc
        refine ⟨rfl, fun q hq => ?_⟩
        have e27 := hq.tmp 27
        simp at e27
        have d27 : f 27 = .pointer (some ⟨L.S, 0, none⟩) := hV 0 _ (by decide) (hdep ⟨0, .data⟩ (by simp) rfl) rfl
        simp [execOp, e27, d27, go_sem]
      | 2, ho, hc =>
        obtain rfl := Option.some.inj ho
        obtain rfl := Option.some.inj hc
        refine ⟨rfl, fun q hq => ?_⟩
        have e28 := hq.tmp 28
        simp at e28
        have d28 : f 28 = .pointer (some ⟨L.S, 0, none⟩) := hV 1 _ (by decide) (hdep ⟨1, .data⟩ (by simp) rfl) rfl
        simp [execOp, e28, d28, go_sem]
      | 3, ho, hc =>
        obtain rfl := Option.some.inj ho
        obtain rfl := Option.some.inj hc
        refine ⟨rfl, fun q hq => ?_⟩
        have e29 := hq.tmp 29
        simp at e29
        have d29 : f 29 = .pointer (some ⟨L.S, 2, none⟩) := hV 2 _ (by decide) (hdep ⟨2, .data⟩ (by simp) rfl) rfl
        simp [execOp, e29, d29, r1, go_sem]
      | 4, ho, hc =>
        obtain rfl := Option.some.inj ho
        obtain rfl := Option.some.inj hc
        refine ⟨rfl, fun q hq => ?_⟩
        have e5 := hq.tmp 5
        simp at e5
        simp [execOp, e5, go_sem]
      | 5, ho, hc =>
        obtain rfl := Option.some.inj ho
        obtain rfl := Option.some.inj hc
        refine ⟨rfl, fun q hq => ?_⟩
        have e31 := hq.tmp 31
        simp at e31
        have d31 : f 31 = .pointer (some ⟨w.heap.size, 2, none⟩) := hV 4 _ (by decide) (hdep ⟨4, .data⟩ (by simp) rfl) rfl
        simp [execOp, e31, d31, r2, go_sem]
      | 6, ho, hc =>
        obtain rfl := Option.some.inj ho
        obtain rfl := Option.some.inj hc
        refine ⟨rfl, fun q hq => ?_⟩
        have e0 := hq.tmp 0
        simp at e0
        simp [execOp, e0, go_sem]
      | 7, ho, hc =>
        obtain rfl := Option.some.inj ho
        obtain rfl := Option.some.inj hc
        refine ⟨rfl, fun q hq => ?_⟩
        have e33 := hq.tmp 33
        simp at e33
        have d33 : f 33 = .pointer (some ⟨L.S, 0, none⟩) := hV 6 _ (by decide) (hdep ⟨6, .data⟩ (by simp) rfl) rfl
        simp [execOp, e33, d33, go_sem]
      | 8, ho, hc =>
        obtain rfl := Option.some.inj ho
        obtain rfl := Option.some.inj hc
        refine ⟨rfl, fun q hq => ?_⟩
        have e34 := hq.tmp 34
        simp at e34
        have d34 : f 34 = .pointer (some ⟨L.S, 0, none⟩) := hV 7 _ (by decide) (hdep ⟨7, .data⟩ (by simp) rfl) rfl
        simp [execOp, e34, d34, go_sem]
      | 9, ho, hc =>
        obtain rfl := Option.some.inj ho
        obtain rfl := Option.some.inj hc
        refine ⟨rfl, fun q hq => ?_⟩
        have e35 := hq.tmp 35
        simp at e35
        have d35 : f 35 = .pointer (some ⟨L.S, 2, none⟩) := hV 8 _ (by decide) (hdep ⟨8, .data⟩ (by simp) rfl) rfl
        simp [execOp, e35, d35, r1, go_sem]
      | 10, ho, hc =>
        obtain rfl := Option.some.inj ho
        obtain rfl := Option.some.inj hc
        refine ⟨rfl, fun q hq => ?_⟩
        have e5 := hq.tmp 5
        simp at e5
        simp [execOp, e5, go_sem]
      | 11, ho, hc =>
        obtain rfl := Option.some.inj ho
        obtain rfl := Option.some.inj hc
        refine ⟨rfl, fun q hq => ?_⟩
        have e37 := hq.tmp 37
        simp at e37
        have d37 : f 37 = .pointer (some ⟨w.heap.size, 2, none⟩) := hV 10 _ (by decide) (hdep ⟨10, .data⟩ (by simp) rfl) rfl
        simp [execOp, e37, d37, r2, go_sem]
      | 12, ho, hc =>
        obtain rfl := Option.some.inj ho
        obtain rfl := Option.some.inj hc
        refine ⟨rfl, fun q hq => ?_⟩
        have e36 := hq.tmp 36
        simp at e36
        have d36 : f 36 = .map (some L.m2) := hV 9 _ (by decide) (hdep ⟨9, .data⟩ (by simp) rfl) rfl
        have e38 := hq.tmp 38
        simp at e38
        have d38 : f 38 = .string fd := hV 11 _ (by decide) (hdep ⟨11, .data⟩ (by simp) rfl) rfl
        have hlk := HLK.out W (hPre (hcl.no (hcl.no hli 13 ⟨12, .data⟩ rfl rfl (by simp) rfl) 17 ⟨13, .data⟩ rfl rfl (by simp) rfl))
        simp [execOp, e36, d36, e38, d38, hlk, go_sem]
      | 14, ho, hc =>
        obtain rfl := Option.some.inj ho
        obtain rfl := Option.some.inj hc
        refine ⟨rfl, fun q hq => ?_⟩
        have e5 := hq.tmp 5
        simp at e5
        simp [execOp, e5, go_sem]
      | 15, ho, hc =>
        obtain rfl := Option.some.inj ho
        obtain rfl := Option.some.inj hc
        refine ⟨rfl, fun q hq => ?_⟩
        have e41 := hq.tmp 41
        simp at e41
        have d41 : f 41 = .pointer (some ⟨w.heap.size, 3, none⟩) := hV 14 _ (by decide) (hdep ⟨14, .data⟩ (by simp) rfl) rfl
        simp [execOp, e41, d41, r3, go_sem]
      | 13, ho, hc => exact absurd hc (by simp)
      | 16, ho, hc => exact absurd hc (by simp)
      | 17, ho, hc => exact absurd hc (by simp)
      | 18, ho, hc => exact absurd hc (by simp)
      | (_ + 19), ho, hc => exact absurd hc (by simp)
    · intro listed f o W ho hdep hP hV
      obtain rfl := Option.some.inj ho
      have hbA := Bl.alloc (Below.refl W.heap.size W) (.cells #[.string rk] 9)
      refine ⟨rfl, .slice (some ⟨W.heap.size, 0, none⟩) 1 1, W.alloc (.cells #[.string rk] 9), fun q hq => ?_, Bl.trans hP hbA, ⟨W.heap.size, rfl, blk_new W _⟩, hbA⟩
      have e42 := hq.tmp 42
      simp at e42
      have d42 : f 42 = .string rk := hV 15 _ (by decide) (hdep ⟨15, .data⟩ (by simp) rfl) rfl
      simp [execOp, e42, d42, go_sem]
    · intro _ listed f o W ho hdep hP hV
      obtain rfl := Option.some.inj ho
      have d39 : f 39 = hdrV hd := hV 12 _ (by decide) (hdep ⟨12, .data⟩ (by simp) rfl) rfl
      refine ⟨rfl, fun K hK => ?_⟩
      refine oper_call rfl 145 #[.tmp 39] _ rfl (enters_of Tryz.func145 (by kernel_rfl) rfl) #[hdrV hd] (by rw [← d39]; simp [putsA_eval]) _ (HCL.out W hP) ?_
      rintro e w' ⟨cv, rfl, h1, h2⟩
      exact ⟨cv, rfl, hK cv w' (Bl.trans hP h2) (h1.base hP.size) h2⟩
    · intro listed f o W ho hdep hP hS hC hV
      obtain rfl := Option.some.inj ho
      obtain ⟨g, hg1, hg2⟩ := hS
      have hC1 := hC (by decide)
      refine ⟨rfl, fun K hK => ?_⟩
      obtain ⟨v', w', hr, h2, h3, h4⟩ := hC1.app TS.ok 63 g 1 rk hg2 rfl (by have := HLL.out; omega) hP.size
      refine oper_append (.tmp 40) (.tmp 43) 63 rfl (f 40) (.slice (some ⟨g, 0, none⟩) 1 1) v' (by simp [putsA_eval]) (by rw [← hg1]; simp [putsA_eval]) hr (hK v' w' ?_)
      obtain ⟨hd4, rfl⟩ := hdr_ofR h2
      exact ⟨hd4, rfl, Lib.hid ⟨h2, Below.trans hP (app_belowR hC1 h3 hP.size)⟩⟩
    · intro listed f o W ho hdep hMid hV
      obtain rfl := Option.some.inj ho
      obtain ⟨hd4, e4, hF⟩ := hMid
      have hF1 := hF.out.1
      rw [e4] at hF1
      obtain ⟨w5, hr5, h5, hk5⟩ := (H3.out.low hF.out.2).putF (M := N + 1) (by have := HN.out; omega) fd HFD.out hd4 (l ++ [rk]) (OwnO.of_own (hF1.base H3.out.lt.2)) (by omega) (Nat.le_trans (Sm.put_le _ _ _) (by have := H3.out.ln.2.2; omega))
      refine ⟨rfl, w5, fun q hq => ?_, Lib.hid ⟨⟨hd4, h5⟩, (Kt.of_below hF.out.2).trans hk5⟩⟩
      have e30 := hq.tmp 30
      have e32 := hq.tmp 32
      have e44 := hq.tmp 44
      simp at e30 e32 e44
      have d30 : f 30 = .map (some L.m2) := hV 3 _ (by decide) (hdep ⟨3, .data⟩ (by simp) rfl) rfl
      have d32 : f 32 = .string fd := hV 5 _ (by decide) (hdep ⟨5, .data⟩ (by simp) rfl) rfl
      simp [execOp, e30, e32, e44, d30, d32, e4, hr5, go_sem]
    intro f w5 hP hV
    clear hV
    unfold putsA
    simp only [List.mapIdx_toArray, List.mapIdx_cons, List.mapIdx_nil, List.contains_cons]
    simp
    obtain ⟨⟨hd4, h5⟩, hk5⟩ := hP.out
    have HF := Lib.hid (And.intro (h5.mono (show N + 1 ≤ N + 200000 by omega) HN.out) (HKT.out _ hk5))
    clear h5 hk5 hP hO
    go_wp2
    go_ret
    exact ⟨rfl, _, HF.out.1, by rw [HST.out, if_pos HR0.out]; exact HRP.out hd4, HF.out.2⟩
  · have hdw : Below w3.heap.size w3 w3.drew := Below.drew (Below.refl _ _)
    obtain ⟨w4, hr4, h4, hk4⟩ := (H3.out.low hdw).delF fd HFD.out 0
    have HF := Lib.hid (And.intro (h4.mono (show N ≤ N + 200000 by omega) HN.out) (HKT.out _ ((Kt.of_below hdw).trans hk4)))
    clear hdw h4 hk4
    go_wp2_with fail
    go_region
    go_wp2
    go_ret
    exact ⟨rfl, _, HF.out.1, by rw [HST.out, if_pos HR0.out]; exact HRR.out.unload (e := (at', 3, fd, rk, mn, bd)) i rfl, HF.out.2⟩
  · have HU := Lib.hid (ruse_any L s N n A i (at', 4, fd, rk, mn, bd) w3 H3.out HN.out HRR.out HII.out HNN.out HE.out rfl HR0.out HEV.out)
    go_wp2_with fail
    refine HU.out.mono ?_
    rintro r w4 ⟨rfl, s4, h4, hr4, hk4⟩
    have HF := Lib.hid (And.intro h4 (And.intro hr4 (HKT.out _ hk4)))
    clear h4 hr4 hk4 HU
    go_wp2
    go_ret
    exact ⟨rfl, s4, HF.out.1, by rw [HST.out, if_pos HR0.out]; exact HF.out.2.1, HF.out.2.2⟩
  · have hdw : Below w3.heap.size w3 w3.drew := Below.drew (Below.refl _ _)
    obtain ⟨w4, hr4, h4, hk4⟩ := (H3.out.low hdw).putV (by have := HN.out; omega) rk HRK.out mn
    have HF := Lib.hid (And.intro (h4.mono (show N + 1 ≤ N + 200000 by omega) HN.out) (HKT.out _ ((Kt.of_below hdw).trans hk4)))
    clear hdw h4 hk4
    go_wp2_with fail
    go_region
    go_wp2
    go_ret
    exact ⟨rfl, _, HF.out.1, by rw [HST.out, if_pos HR0.out]; exact HRR.out.count (e := (at', 5, fd, rk, mn, bd)) i rfl, HF.out.2⟩
end Go.Proofs.YtilhonppgedoiaaGreatDoor
namespace Go.Proofs.YtilhonppgedoiaaGreatDoor
open Go.RowKit Go.Sort Go.Maps
theorem setB2 (w : World) (b : Nat) (o o' : Obj) : ChangeMaps.setBlock (ChangeMaps.setBlock w b o) b o' = ChangeMaps.setBlock w b o' := by
  unfold ChangeMaps.setBlock
  simp
/-- an entry of a map made, then stored. -/
theorem MapS.entry {α : Type} {T : Mty α} {w : World} {b : Nat} {l : Sm α} (h : MapS T w b l) (hT : T.Ok) (s : ByteArray) (hs : s.size ≤ maxLen) (x : α) (hl : l.length < maxLen) :
    ∃ v0 sv wA wB, (Instr.mapEntry T.t (.map (some b)) (.string s)).run Tryz.prog w = .ok (.tuple #[v0, sv]) wA ∧ (Instr.entryStore T.t (.map (some b)) sv (T.V x)).run Tryz.prog wA = .ok () wB ∧ MapS T wB b (l.put s.data.toList x) ∧ w.grownBy wA (some b) ∧ w.grownBy wB (some b) := by
  obtain ⟨w', hr, hm, ht⟩ := h.put hT s hs x hl
  obtain ⟨hOk, es, ck, hb, F, hsz, hD⟩ := h
  obtain ⟨v0, st, es1, c1, hr1, _, h2⟩ := WideElems.entry_then_store (WideMaps.string_law Tryz.underlying9) hT.ut hT.zv hb F (keyS s hs)
  obtain ⟨es', c', hr2, hr3⟩ := h2 _ (T.V x) (ChangeMaps.heap_setBlock_same hb _)
  rw [setB2] at hr2
  rw [hr3] at hr
  injection hr with _ hr
  subst hr
  refine ⟨v0, _, _, _, hr1, hr2, hm, ?_, ht.grown⟩
  exact World.mapTurned.grown ⟨es, ck, es1, c1, hb, rfl⟩
section
variable {w w' : World} {L : Loc} {r : RSt} {N : Nat}
theorem StR.entP (h : StR w L r N) (hN : N + 1 ≤ 1000000000) (k : ByteArray) (hk : k.size ≤ maxLen) (x : ByteArray) :
    ∃ v0 sv wA wB, (Instr.mapEntry 179 (.map (some L.m0)) (.string k)).run Tryz.prog w = .ok (.tuple #[v0, sv]) wA ∧ (Instr.entryStore 179 (.map (some L.m0)) sv (.string x)).run Tryz.prog wA = .ok () wB ∧ StR wB L { r with P := r.P.put k.data.toList x } (N + 1) ∧ Kt L.B w wB ∧ w.grownBy wA (some L.m0) ∧ w.grownBy wB (some L.m0) := by
  obtain ⟨n1, n2, n3⟩ := h.ln
  obtain ⟨v0, sv, wA, wB, hr1, hr2, hm, hgA, hg⟩ := h.mP.entry TMs.ok k hk x (lt_max n1 h.big)
  have hp := Sm.put_le r.P k.data.toList x
  obtain ⟨h1, h2⟩ := h.off (fun cur t => h.mP.noCells cur t) hg
  exact ⟨v0, sv, wA, wB, hr1, hr2, ⟨hN, ⟨by show (r.P.put _ _).length ≤ _; omega, by show r.V.length ≤ _; omega, by show r.F.length ≤ _; omega⟩, h.b, h.ne, h1, hm, h.mV.kept hg (some_ne h.ne.1.symm), h.mF.kept hg (some_ne h.ne.2.1.symm), h2⟩, Kt.of_gr hg h.b.2.1 h.mP.noFix, hgA, hg⟩
theorem StR.entV (h : StR w L r N) (hN : N + 1 ≤ 1000000000) (k : ByteArray) (hk : k.size ≤ maxLen) (x : Int) :
    ∃ v0 sv wA wB, (Instr.mapEntry 149 (.map (some L.m1)) (.string k)).run Tryz.prog w = .ok (.tuple #[v0, sv]) wA ∧ (Instr.entryStore 149 (.map (some L.m1)) sv (.int .i64 x)).run Tryz.prog wA = .ok () wB ∧ StR wB L { r with V := r.V.put k.data.toList x } (N + 1) ∧ Kt L.B w wB ∧ w.grownBy wA (some L.m1) ∧ w.grownBy wB (some L.m1) := by
  obtain ⟨n1, n2, n3⟩ := h.ln
  obtain ⟨v0, sv, wA, wB, hr1, hr2, hm, hgA, hg⟩ := h.mV.entry TMi.ok k hk x (lt_max n2 h.big)
  have hp := Sm.put_le r.V k.data.toList x
  obtain ⟨h1, h2⟩ := h.off (fun cur t => h.mV.noCells cur t) hg
  exact ⟨v0, sv, wA, wB, hr1, hr2, ⟨hN, ⟨by show r.P.length ≤ _; omega, by show (r.V.put _ _).length ≤ _; omega, by show r.F.length ≤ _; omega⟩, h.b, h.ne, h1, h.mP.kept hg (some_ne h.ne.1), hm, h.mF.kept hg (some_ne h.ne.2.2.symm), h2⟩, Kt.of_gr hg h.b.2.2.1 h.mV.noFix, hgA, hg⟩
end
theorem gr_cells {w w' : World} {m g : Nat} {cs : Array Value} {t : TypeId} (hg : w.grownBy w' (some m)) (hm : ∀ cur t, w.heap[m]? ≠ some (.cells cur t (0, 0))) (h : w.heap[g]? = some (.cells cs t (0, 0))) : w'.heap[g]? = some (.cells cs t (0, 0)) :=
  (hg.block g (blk_lt h) fun e => by injection e with e; subst e; exact hm _ _ h).trans h
set_option maxHeartbeats 8000000 in
set_option maxRecDepth 100000 in
theorem come_any (L : Loc) (r : RSt) (N : Nat) (x : Rel) (w : World) (h : StR w L r N) (hN : N + 2 ≤ 1000000000) (hx : x.1.size ≤ maxLen) :
    Calls Tryz.prog 143 #[.pointer (some ⟨L.S, 0, none⟩), .agg #[.string x.1, .string x.2.1, .int .i64 x.2.2]] w fun e w' => e = .returned (.tuple #[]) ∧ StR w' L { r with P := r.P.put x.1.data.toList x.2.1, V := r.V.put x.1.data.toList x.2.2 } (N + 2) ∧ Kt L.B w w' := by
  obtain ⟨a, b, n⟩ := x
  obtain ⟨w1, hw1⟩ : ∃ w1, w1 = w.alloc (.cells #[.string a, .string b, .int .i64 n] 90) := ⟨_, rfl⟩
  have hb1 : Below w.heap.size w w1 := by rw [hw1]; exact Bl.alloc (Below.refl _ _) _
  have hx1 : w1.heap[w.heap.size]? = some (.cells #[.string a, .string b, .int .i64 n] 90 (0, 0)) := by rw [hw1]; exact blk_new w _
  have hd : Below w1.heap.size w1 w1.drew := Below.drew (Below.refl _ _)
  obtain ⟨w0, hw0⟩ : ∃ w0, w0 = w1.drew := ⟨_, rfl⟩
  rw [← hw0] at hd
  have h0 := (h.low hb1).low hd
  obtain ⟨v0, sv0, wA, wB, hrA, hrB, hSB, hKB, hgA, hgB⟩ := h0.entP (by omega) a hx b
  obtain ⟨v1, sv1, wC, wD, hrC, hrD, hSD, hKD, hgC, hgD⟩ := hSB.entV (by omega) a hx n
  obtain ⟨tv, hS0, _⟩ := h0.tv
  obtain ⟨tvB, hSB2, _⟩ := hSB.tv
  have hX0 := blk_below hx1 hd
  have hXB := gr_cells hgB (fun cur t => h0.mP.noCells cur t) hX0
  have hRD : ∀ W, (W = w0 ∨ W = wA ∨ W = wB ∨ W = wC ∨ W = wD) → W.cell? ⟨L.S, 0, none⟩ = some (.map (some L.m0)) ∧ W.cell? ⟨L.S, 1, none⟩ = some (.map (some L.m1)) ∧ W.cell? ⟨w.heap.size, 0, none⟩ = some (.string a) ∧ W.cell? ⟨w.heap.size, 1, none⟩ = some (.string b) ∧ W.cell? ⟨w.heap.size, 2, none⟩ = some (.int .i64 n) := by
    have mk : ∀ W : World, (∃ tv, W.heap[L.S]? = some (.cells #[.map (some L.m0), .map (some L.m1), .map (some L.m2), tv] 188 (0, 0))) → W.heap[w.heap.size]? = some (.cells #[.string a, .string b, .int .i64 n] 90 (0, 0)) → W.cell? ⟨L.S, 0, none⟩ = some (.map (some L.m0)) ∧ W.cell? ⟨L.S, 1, none⟩ = some (.map (some L.m1)) ∧ W.cell? ⟨w.heap.size, 0, none⟩ = some (.string a) ∧ W.cell? ⟨w.heap.size, 1, none⟩ = some (.string b) ∧ W.cell? ⟨w.heap.size, 2, none⟩ = some (.int .i64 n) := fun W ⟨tv, h1⟩ h2 => ⟨blk_cell h1 0, blk_cell h1 1, blk_cell h2 0, blk_cell h2 1, blk_cell h2 2⟩
    rintro W (rfl | rfl | rfl | rfl | rfl)
    · exact mk _ ⟨_, hS0⟩ hX0
    · exact mk _ ⟨_, gr_cells hgA (fun cur t => h0.mP.noCells cur t) hS0⟩ (gr_cells hgA (fun cur t => h0.mP.noCells cur t) hX0)
    · exact mk _ ⟨_, hSB2⟩ hXB
    · exact mk _ ⟨_, gr_cells hgC (fun cur t => hSB.mV.noCells cur t) hSB2⟩ (gr_cells hgC (fun cur t => hSB.mV.noCells cur t) hXB)
    · exact mk _ ⟨_, gr_cells hgD (fun cur t => hSB.mV.noCells cur t) hSB2⟩ (gr_cells hgD (fun cur t => hSB.mV.noCells cur t) hXB)
  have HRD := Lib.hid hRD
  have HF := Lib.hid (And.intro hSD ((Kt.of_below hb1).trans ((Kt.of_below hd).trans (hKB.trans hKD))))
  obtain ⟨Bs, hBsd⟩ : ∃ Bs : Array Bool → (Nat → Value) → World → Prop, Bs = fun listed f W => W = (if listed.getD 21 false = true then wD else if listed.getD 19 false = true then wC else if listed.getD 18 false = true then wB else if listed.getD 16 false = true then wA else w0) ∧ (listed.getD 16 false = true → f 20 = .tuple #[v0, sv0]) ∧ (listed.getD 19 false = true → f 22 = .tuple #[v1, sv1]) := ⟨_, rfl⟩
  have HBS := Lib.hid hBsd
  have HBK : Hid (∀ (listed : Array Bool) (f : Nat → Value) (i d : Nat) (v : Value) (W : World), i ≠ 16 → i ≠ 18 → i ≠ 19 → i ≠ 21 → d ≠ 20 → d ≠ 22 → i < listed.size → Bs listed f W → Bs (listed.setIfInBounds i true) (updD f (some d) v) W) := Lib.hid fun listed f i d v W h1 h2 h3 h4 h5 h6 hi hB => by
    rw [hBsd] at hB ⊢
    simp only [getD_set hi, if_neg (Ne.symm h1), if_neg (Ne.symm h2), if_neg (Ne.symm h3), if_neg (Ne.symm h4), updD_ne (Ne.symm h5), updD_ne (Ne.symm h6)]
    exact hB
  have HW : Hid (∀ (listed : Array Bool) (f : Nat → Value) (W : World), Bs listed f W → (W = w0 ∨ W = wA ∨ W = wB ∨ W = wC ∨ W = wD)) := Lib.hid fun listed f W hB => by
    rw [hBsd] at hB
    rw [hB.1]
    split
    · simp
    split
    · simp
    split
    · simp
    split <;> simp
  change Calls _ _ #[_, .agg #[.string a, .string b, .int .i64 n]] _ _
  have lS : L.S < w1.heap.size := (h.low hb1).lt.1
  clear h hb1 hx1 hd h0 hSB hKB hgA hgB hSD hKD hgC hgD hS0 hSB2 hX0 hXB hRD hBsd hx
  go_enter Tryz.func143, Tryz.ntmps143
  go_wp2_with fail
  rw [← hw1]
  clear hw1
  refine wp_region_ef (by kernel_rfl) [4, 5, 6, 7, 8, 9, 10, 11, 12, 13, 14, 15, 16, 17, 18, 19, 20, 21, 22, 23] (fun ii => ([some (.pointer (some ⟨L.S, 0, none⟩)), some (.pointer (some ⟨L.S, 0, none⟩)), some (.pointer (some ⟨L.S, 0, none⟩)), some (.map (some L.m0)), some (.pointer (some ⟨w.heap.size, 0, none⟩)), some (.string a), some (.pointer (some ⟨L.S, 0, none⟩)), some (.pointer (some ⟨L.S, 0, none⟩)), some (.pointer (some ⟨L.S, 1, none⟩)), some (.map (some L.m1)), some (.pointer (some ⟨w.heap.size, 0, none⟩)), some (.string a), some (.pointer (some ⟨w.heap.size, 1, none⟩)), some (.string b), some (.pointer (some ⟨w.heap.size, 2, none⟩)), some (.int .i64 n), none, some (sv0), none, none, some (sv1), none] : List (Option Value)).getD ii none) Bs (by kernel_rfl) (by kernel_rfl) ?_ ?_ ?_ ?_ ?_ ?_
  · intro i' o ho hdn
    match i', ho with
    | 18, _ => rfl
    | 21, _ => rfl
    | 0, ho | 1, ho | 2, ho | 3, ho | 4, ho | 5, ho | 6, ho | 7, ho | 8, ho | 9, ho | 10, ho | 11, ho | 12, ho | 13, ho | 14, ho | 15, ho | 16, ho | 17, ho | 19, ho | 20, ho => exact absurd hdn (by obtain rfl := Option.some.inj ho; simp)
    | (_ + 22), ho => simp at ho
  · rw [HBS.out]
    have e : ∀ i, (Array.replicate 22 false).getD i false = false := fun i => by
      unfold Array.getD
      split <;> simp
    refine ⟨?_, fun h => ?_, fun h => ?_⟩
    · show _ = (if (Array.replicate 22 false).getD 21 false = true then wD else if (Array.replicate 22 false).getD 19 false = true then wC else if (Array.replicate 22 false).getD 18 false = true then wB else if (Array.replicate 22 false).getD 16 false = true then wA else w0)
      simp only [e, Bool.false_eq_true, if_false]
      rw [hw0]; rfl
    · have h2 : (Array.replicate 22 false).getD 16 false = true := h
      rw [e] at h2; cases h2
    · have h2 : (Array.replicate 22 false).getD 19 false = true := h
      rw [e] at h2; cases h2
  · intro listed f i' o v W ho hc hi hs hBs
    match i', ho, hc with
    | 0, ho, hc => (obtain rfl := Option.some.inj ho; exact HBK.out _ _ _ 4 _ _ (by decide) (by decide) (by decide) (by decide) (by decide) (by decide) (by rw [hs]; decide) hBs)
    | 1, ho, hc => (obtain rfl := Option.some.inj ho; exact HBK.out _ _ _ 5 _ _ (by decide) (by decide) (by decide) (by decide) (by decide) (by decide) (by rw [hs]; decide) hBs)
    | 2, ho, hc => (obtain rfl := Option.some.inj ho; exact HBK.out _ _ _ 6 _ _ (by decide) (by decide) (by decide) (by decide) (by decide) (by decide) (by rw [hs]; decide) hBs)
    | 3, ho, hc => (obtain rfl := Option.some.inj ho; exact HBK.out _ _ _ 7 _ _ (by decide) (by decide) (by decide) (by decide) (by decide) (by decide) (by rw [hs]; decide) hBs)
    | 4, ho, hc => (obtain rfl := Option.some.inj ho; exact HBK.out _ _ _ 8 _ _ (by decide) (by decide) (by decide) (by decide) (by decide) (by decide) (by rw [hs]; decide) hBs)
    | 5, ho, hc => (obtain rfl := Option.some.inj ho; exact HBK.out _ _ _ 9 _ _ (by decide) (by decide) (by decide) (by decide) (by decide) (by decide) (by rw [hs]; decide) hBs)
    | 6, ho, hc => (obtain rfl := Option.some.inj ho; exact HBK.out _ _ _ 10 _ _ (by decide) (by decide) (by decide) (by decide) (by decide) (by decide) (by rw [hs]; decide) hBs)
    | 7, ho, hc => (obtain rfl := Option.some.inj ho; exact HBK.out _ _ _ 11 _ _ (by decide) (by decide) (by decide) (by decide) (by decide) (by decide) (by rw [hs]; decide) hBs)
    | 8, ho, hc => (obtain rfl := Option.some.inj ho; exact HBK.out _ _ _ 12 _ _ (by decide) (by decide) (by decide) (by decide) (by decide) (by decide) (by rw [hs]; decide) hBs)
    | 9, ho, hc => (obtain rfl := Option.some.inj ho; exact HBK.out _ _ _ 13 _ _ (by decide) (by decide) (by decide) (by decide) (by decide) (by decide) (by rw [hs]; decide) hBs)
    | 10, ho, hc => (obtain rfl := Option.some.inj ho; exact HBK.out _ _ _ 14 _ _ (by decide) (by decide) (by decide) (by decide) (by decide) (by decide) (by rw [hs]; decide) hBs)
    | 11, ho, hc => (obtain rfl := Option.some.inj ho; exact HBK.out _ _ _ 15 _ _ (by decide) (by decide) (by decide) (by decide) (by decide) (by decide) (by rw [hs]; decide) hBs)
    | 12, ho, hc => (obtain rfl := Option.some.inj ho; exact HBK.out _ _ _ 16 _ _ (by decide) (by decide) (by decide) (by decide) (by decide) (by decide) (by rw [hs]; decide) hBs)
    | 13, ho, hc => (obtain rfl := Option.some.inj ho; exact HBK.out _ _ _ 17 _ _ (by decide) (by decide) (by decide) (by decide) (by decide) (by decide) (by rw [hs]; decide) hBs)
    | 14, ho, hc => (obtain rfl := Option.some.inj ho; exact HBK.out _ _ _ 18 _ _ (by decide) (by decide) (by decide) (by decide) (by decide) (by decide) (by rw [hs]; decide) hBs)
    | 15, ho, hc => (obtain rfl := Option.some.inj ho; exact HBK.out _ _ _ 19 _ _ (by decide) (by decide) (by decide) (by decide) (by decide) (by decide) (by rw [hs]; decide) hBs)
    | 17, ho, hc => (obtain rfl := Option.some.inj ho; exact HBK.out _ _ _ 21 _ _ (by decide) (by decide) (by decide) (by decide) (by decide) (by decide) (by rw [hs]; decide) hBs)
    | 20, ho, hc => (obtain rfl := Option.some.inj ho; exact HBK.out _ _ _ 23 _ _ (by decide) (by decide) (by decide) (by decide) (by decide) (by decide) (by rw [hs]; decide) hBs)
    | 16, ho, hc => exact absurd hc (by simp)
    | 18, ho, hc => exact absurd hc (by simp)
    | 19, ho, hc => exact absurd hc (by simp)
    | 21, ho, hc => exact absurd hc (by simp)
    | (_ + 22), ho, hc => exact absurd hc (by simp)
  · intro listed f i' o v W ho hc hs hli hcl hdep hBs hV
    obtain ⟨r1, r2, r3, r4, r5⟩ := HRD.out W (HW.out _ _ _ hBs)
    rw [HBS.out] at hBs
    match i', ho, hc with
    | 0, ho, hc =>
      obtain rfl := Option.some.inj ho
      obtain rfl := Option.some.inj hc
      refine ⟨rfl, fun q hq => ?_⟩
      have e0 := hq.tmp 0
      simp at e0
      simp [execOp, e0, go_sem]
    | 1, ho, hc =>
      obtain rfl := Option.some.inj ho
      obtain rfl := Option.some.inj hc
      refine ⟨rfl, fun q hq => ?_⟩
      have e4 := hq.tmp 4
      simp at e4
      have d4 : f 4 = .pointer (some ⟨L.S, 0, none⟩) := hV 0 _ (by decide) (hdep ⟨0, .data⟩ (by simp) rfl) rfl
      simp [execOp, e4, d4, go_sem]
    | 2, ho, hc =>
      obtain rfl := Option.some.inj ho
      obtain rfl := Option.some.inj hc
      refine ⟨rfl, fun q hq => ?_⟩
      have e5 := hq.tmp 5
      simp at e5
      have d5 : f 5 = .pointer (some ⟨L.S, 0, none⟩) := hV 1 _ (by decide) (hdep ⟨1, .data⟩ (by simp) rfl) rfl
      simp [execOp, e5, d5, go_sem]
    | 3, ho, hc =>
      obtain rfl := Option.some.inj ho
      obtain rfl := Option.some.inj hc
      refine ⟨rfl, fun q hq => ?_⟩
      have e6 := hq.tmp 6
      simp at e6
      have d6 : f 6 = .pointer (some ⟨L.S, 0, none⟩) := hV 2 _ (by decide) (hdep ⟨2, .data⟩ (by simp) rfl) rfl
      simp [execOp, e6, d6, r1, go_sem]
    | 4, ho, hc =>
      obtain rfl := Option.some.inj ho
      obtain rfl := Option.some.inj hc
      refine ⟨rfl, fun q hq => ?_⟩
      have e3 := hq.tmp 3
      simp at e3
      simp [execOp, e3, go_sem]
    | 5, ho, hc =>
      obtain rfl := Option.some.inj ho
      obtain rfl := Option.some.inj hc
      refine ⟨rfl, fun q hq => ?_⟩
      have e8 := hq.tmp 8
      simp at e8
      have d8 : f 8 = .pointer (some ⟨w.heap.size, 0, none⟩) := hV 4 _ (by decide) (hdep ⟨4, .data⟩ (by simp) rfl) rfl
      simp [execOp, e8, d8, r3, go_sem]
    | 6, ho, hc =>
      obtain rfl := Option.some.inj ho
      obtain rfl := Option.some.inj hc
      refine ⟨rfl, fun q hq => ?_⟩
      have e0 := hq.tmp 0
      simp at e0
      simp [execOp, e0, go_sem]
    | 7, ho, hc =>
      obtain rfl := Option.some.inj ho
      obtain rfl := Option.some.inj hc
      refine ⟨rfl, fun q hq => ?_⟩
      have e10 := hq.tmp 10
      simp at e10
      have d10 : f 10 = .pointer (some ⟨L.S, 0, none⟩) := hV 6 _ (by decide) (hdep ⟨6, .data⟩ (by simp) rfl) rfl
      simp [execOp, e10, d10, go_sem]
    | 8, ho, hc =>
      obtain rfl := Option.some.inj ho
      obtain rfl := Option.some.inj hc
      refine ⟨rfl, fun q hq => ?_⟩
      have e11 := hq.tmp 11
      simp at e11
      have d11 : f 11 = .pointer (some ⟨L.S, 0, none⟩) := hV 7 _ (by decide) (hdep ⟨7, .data⟩ (by simp) rfl) rfl
      simp [execOp, e11, d11, go_sem]
    | 9, ho, hc =>
      obtain rfl := Option.some.inj ho
      obtain rfl := Option.some.inj hc
      refine ⟨rfl, fun q hq => ?_⟩
      have e12 := hq.tmp 12
      simp at e12
      have d12 : f 12 = .pointer (some ⟨L.S, 1, none⟩) := hV 8 _ (by decide) (hdep ⟨8, .data⟩ (by simp) rfl) rfl
      simp [execOp, e12, d12, r2, go_sem]
    | 10, ho, hc =>
      obtain rfl := Option.some.inj ho
      obtain rfl := Option.some.inj hc
      refine ⟨rfl, fun q hq => ?_⟩
      have e3 := hq.tmp 3
      simp at e3
      simp [execOp, e3, go_sem]
    | 11, ho, hc =>
      obtain rfl := Option.some.inj ho
      obtain rfl := Option.some.inj hc
      refine ⟨rfl, fun q hq => ?_⟩
      have e14 := hq.tmp 14
      simp at e14
      have d14 : f 14 = .pointer (some ⟨w.heap.size, 0, none⟩) := hV 10 _ (by decide) (hdep ⟨10, .data⟩ (by simp) rfl) rfl
      simp [execOp, e14, d14, r3, go_sem]
    | 12, ho, hc =>
      obtain rfl := Option.some.inj ho
      obtain rfl := Option.some.inj hc
      refine ⟨rfl, fun q hq => ?_⟩
      have e3 := hq.tmp 3
      simp at e3
      simp [execOp, e3, go_sem]
    | 13, ho, hc =>
      obtain rfl := Option.some.inj ho
      obtain rfl := Option.some.inj hc
      refine ⟨rfl, fun q hq => ?_⟩
      have e16 := hq.tmp 16
      simp at e16
      have d16 : f 16 = .pointer (some ⟨w.heap.size, 1, none⟩) := hV 12 _ (by decide) (hdep ⟨12, .data⟩ (by simp) rfl) rfl
      simp [execOp, e16, d16, r4, go_sem]
    | 14, ho, hc =>
      obtain rfl := Option.some.inj ho
      obtain rfl := Option.some.inj hc
      refine ⟨rfl, fun q hq => ?_⟩
      have e3 := hq.tmp 3
      simp at e3
      simp [execOp, e3, go_sem]
    | 15, ho, hc =>
      obtain rfl := Option.some.inj ho
      obtain rfl := Option.some.inj hc
      refine ⟨rfl, fun q hq => ?_⟩
      have e18 := hq.tmp 18
      simp at e18
      have d18 : f 18 = .pointer (some ⟨w.heap.size, 2, none⟩) := hV 14 _ (by decide) (hdep ⟨14, .data⟩ (by simp) rfl) rfl
      simp [execOp, e18, d18, r5, go_sem]
    | 17, ho, hc =>
      obtain rfl := Option.some.inj ho
      obtain rfl := Option.some.inj hc
      refine ⟨rfl, fun q hq => ?_⟩
      have e20 := hq.tmp 20
      simp at e20
      have hlk : f 20 = .tuple #[v0, sv0] := hBs.2.1 (hdep ⟨16, .data⟩ (by simp) rfl)
      simp [execOp, e20, hlk, go_sem]
    | 20, ho, hc =>
      obtain rfl := Option.some.inj ho
      obtain rfl := Option.some.inj hc
      refine ⟨rfl, fun q hq => ?_⟩
      have e22 := hq.tmp 22
      simp at e22
      have hlk : f 22 = .tuple #[v1, sv1] := hBs.2.2 (hdep ⟨19, .data⟩ (by simp) rfl)
      simp [execOp, e22, hlk, go_sem]
    | 16, ho, hc => exact absurd hc (by simp)
    | 18, ho, hc => exact absurd hc (by simp)
    | 19, ho, hc => exact absurd hc (by simp)
    | 21, ho, hc => exact absurd hc (by simp)
    | (_ + 22), ho, hc => exact absurd hc (by simp)
  · intro listed f i' o W ho hc hi hs hli hcl hdep hBs hV
    have hs22 : listed.size = 22 := hs
    have hset : ∀ j m : Nat, j < 22 → (listed.setIfInBounds j true).getD m false = if m = j then true else listed.getD m false := fun j m hj => getD_set (by omega)
    rw [HBS.out] at hBs
    match i', ho, hc with
    | 16, ho, hc =>
      obtain rfl := Option.some.inj ho
      have n18 := hcl.no hli 18 ⟨16, .chain⟩ rfl rfl (by simp) rfl
      have n19 := hcl.no n18 19 ⟨18, .chain⟩ rfl rfl (by simp) rfl
      have n21 := hcl.no n19 21 ⟨19, .chain⟩ rfl rfl (by simp) rfl
      have hW0 := hBs.1
      simp only [hli, n18, n19, n21, Bool.false_eq_true, if_false] at hW0
      subst hW0
      refine wpOp_mono ?_ (iv_val (Bu := fun W => W = wA) (Rl := fun _ => True) (Vi := fun v' _ => v' = .tuple #[v0, sv0]) ho rfl (.tuple #[v0, sv0]) wA (fun q hq => ?_) rfl trivial rfl)
      · rintro a'' w'' ⟨v', e1, rfl, _, rfl⟩
        refine ⟨_, e1, ?_, trivial, trivial⟩
        rw [HBS.out]
        refine ⟨?_, fun _ => updD_at, fun h => ?_⟩
        · simp [hset, n18, n19, n21]
        · rw [hset 16 19 (by decide), if_neg (by decide), n19] at h; cases h
      · have e7 := hq.tmp 7
        have e9 := hq.tmp 9
        simp at e7 e9
        have d7 : f 7 = .map (some L.m0) := hV 3 _ (by decide) (hdep ⟨3, .data⟩ (by simp) rfl) rfl
        have d9 : f 9 = .string a := hV 5 _ (by decide) (hdep ⟨5, .data⟩ (by simp) rfl) rfl
        simp [execOp, e7, e9, d7, d9, hrA, go_sem]
    | 18, ho, hc =>
      obtain rfl := Option.some.inj ho
      have y16 := hdep ⟨16, .chain⟩ (by simp) rfl
      have n19 := hcl.no hli 19 ⟨18, .chain⟩ rfl rfl (by simp) rfl
      have n21 := hcl.no n19 21 ⟨19, .chain⟩ rfl rfl (by simp) rfl
      have hW0 := hBs.1
      simp only [hli, y16, n19, n21, Bool.false_eq_true, if_false, if_true] at hW0
      subst hW0
      refine wpOp_mono ?_ (iv_skip (Bu := fun W => W = wB) (Rl := fun _ => True) (Vi := fun _ _ => True) ho rfl rfl wB (fun q hq => ?_) rfl trivial trivial)
      · rintro a'' w'' ⟨v', e1, rfl, _, _⟩
        refine ⟨_, e1, ?_, trivial, trivial⟩
        rw [HBS.out]
        refine ⟨?_, fun _ => hBs.2.1 y16, fun h => ?_⟩
        · simp [hset, n19, n21]
        · rw [hset 18 19 (by decide), if_neg (by decide), n19] at h; cases h
      · have e7 := hq.tmp 7
        have e21 := hq.tmp 21
        have e17 := hq.tmp 17
        simp at e7 e21 e17
        have d7 : f 7 = .map (some L.m0) := hV 3 _ (by decide) (hdep ⟨3, .data⟩ (by simp) rfl) rfl
        have d21 : f 21 = sv0 := hV 17 _ (by decide) (hdep ⟨17, .data⟩ (by simp) rfl) rfl
        have d17 : f 17 = .string b := hV 13 _ (by decide) (hdep ⟨13, .data⟩ (by simp) rfl) rfl
        simp [execOp, e7, e21, e17, d7, d21, d17, hrB, go_sem]
    | 19, ho, hc =>
      obtain rfl := Option.some.inj ho
      have y18 := hdep ⟨18, .chain⟩ (by simp) rfl
      have y16 := hcl 18 _ rfl y18 ⟨16, .chain⟩ (by simp) rfl
      have n21 := hcl.no hli 21 ⟨19, .chain⟩ rfl rfl (by simp) rfl
      have hW0 := hBs.1
      simp only [hli, y18, n21, Bool.false_eq_true, if_false, if_true] at hW0
      subst hW0
      refine wpOp_mono ?_ (iv_val (Bu := fun W => W = wC) (Rl := fun _ => True) (Vi := fun v' _ => v' = .tuple #[v1, sv1]) ho rfl (.tuple #[v1, sv1]) wC (fun q hq => ?_) rfl trivial rfl)
      · rintro a'' w'' ⟨v', e1, rfl, _, rfl⟩
        refine ⟨_, e1, ?_, trivial, trivial⟩
        rw [HBS.out]
        refine ⟨?_, fun _ => ?_, fun h => updD_at⟩
        · simp [hset, n21]
        · exact (updD_ne (by decide)).trans (hBs.2.1 y16)
      · have e13 := hq.tmp 13
        have e15 := hq.tmp 15
        simp at e13 e15
        have d13 : f 13 = .map (some L.m1) := hV 9 _ (by decide) (hdep ⟨9, .data⟩ (by simp) rfl) rfl
        have d15 : f 15 = .string a := hV 11 _ (by decide) (hdep ⟨11, .data⟩ (by simp) rfl) rfl
        simp [execOp, e13, e15, d13, d15, hrC, go_sem]
    | 21, ho, hc =>
      obtain rfl := Option.some.inj ho
      have y19 := hdep ⟨19, .chain⟩ (by simp) rfl
      have y18 := hcl 19 _ rfl y19 ⟨18, .chain⟩ (by simp) rfl
      have y16 := hcl 18 _ rfl y18 ⟨16, .chain⟩ (by simp) rfl
      have hW0 := hBs.1
      simp only [hli, y19, Bool.false_eq_true, if_false, if_true] at hW0
      subst hW0
      refine wpOp_mono ?_ (iv_skip (Bu := fun W => W = wD) (Rl := fun _ => True) (Vi := fun _ _ => True) ho rfl rfl wD (fun q hq => ?_) rfl trivial trivial)
      · rintro a'' w'' ⟨v', e1, rfl, _, _⟩
        refine ⟨_, e1, ?_, trivial, trivial⟩
        rw [HBS.out]
        refine ⟨?_, fun _ => hBs.2.1 y16, fun _ => hBs.2.2 y19⟩
        simp [hset]
      · have e13 := hq.tmp 13
        have e23 := hq.tmp 23
        have e19 := hq.tmp 19
        simp at e13 e23 e19
        have d13 : f 13 = .map (some L.m1) := hV 9 _ (by decide) (hdep ⟨9, .data⟩ (by simp) rfl) rfl
        have d23 : f 23 = sv1 := hV 20 _ (by decide) (hdep ⟨20, .data⟩ (by simp) rfl) rfl
        have d19 : f 19 = .int .i64 n := hV 15 _ (by decide) (hdep ⟨15, .data⟩ (by simp) rfl) rfl
        simp [execOp, e13, e23, e19, d13, d23, d19, hrD, go_sem]
    | 0, ho, hc => exact absurd hc (by simp)
    | 1, ho, hc => exact absurd hc (by simp)
    | 2, ho, hc => exact absurd hc (by simp)
    | 3, ho, hc => exact absurd hc (by simp)
    | 4, ho, hc => exact absurd hc (by simp)
    | 5, ho, hc => exact absurd hc (by simp)
    | 6, ho, hc => exact absurd hc (by simp)
    | 7, ho, hc => exact absurd hc (by simp)
    | 8, ho, hc => exact absurd hc (by simp)
    | 9, ho, hc => exact absurd hc (by simp)
    | 10, ho, hc => exact absurd hc (by simp)
    | 11, ho, hc => exact absurd hc (by simp)
    | 12, ho, hc => exact absurd hc (by simp)
    | 13, ho, hc => exact absurd hc (by simp)
    | 14, ho, hc => exact absurd hc (by simp)
    | 15, ho, hc => exact absurd hc (by simp)
    | 17, ho, hc => exact absurd hc (by simp)
    | 20, ho, hc => exact absurd hc (by simp)
    | (_ + 22), ho, hc => simp at ho
  · intro listed f W hall hBs hV
    rw [HBS.out] at hBs
    have hW0 := hBs.1
    have y21 : listed.getD 21 false = true := hall 21 (by decide)
    simp only [y21, if_true] at hW0
    subst hW0
    clear hBs hV hall
    unfold putsA
    simp only [List.mapIdx_toArray, List.mapIdx_cons, List.mapIdx_nil, List.contains_cons]
    simp
    go_wp2
    go_end0
    exact ⟨rfl, HF.out⟩
end Go.Proofs.YtilhonppgedoiaaGreatDoor
namespace Go.Proofs.YtilhonppgedoiaaGreatDoor
open Go.RowKit Go.Sort Go.Maps
theorem relR_new : RelR ⟨[], [], [], []⟩ (newM []) := ⟨rfl, fun _ => rfl, fun _ => rfl, rfl⟩
theorem relR_add {P : Sm ByteArray} {V : Sm Int} {rs : List Rel} (h : RelR ⟨P, V, [], []⟩ (newM rs)) (x : Rel) : RelR ⟨P.put x.1.data.toList x.2.1, V.put x.1.data.toList x.2.2, [], []⟩ (newM (rs ++ [x])) := by
  obtain ⟨a, b, n⟩ := x
  rw [newM_snoc]
  refine ⟨?_, fun y => ?_, fun _ => rfl, rfl⟩
  · show lfI (V.put a.data.toList n) = updL (newM rs).left a n
    rw [lfI_put]
    have := h.left
    rw [show lfI V = (newM rs).left from this]
  · show ptR (P.put a.data.toList b) y = updR (newM rs).part a b y
    unfold updR ptR
    by_cases hy : y = a
    · subst hy; rw [Sm.get_put_same, if_pos rfl]; rfl
    · rw [Sm.get_put_other (fun e => hy (ba_ext e).symm), if_neg hy]; exact h.part y
set_option maxHeartbeats 4000000 in
set_option maxRecDepth 100000 in
theorem newStoreR_any (rs : List Rel) (vr : Value) (w : World) (rr : RecR TRe w 0 vr rs) (hrn : rs.length ≤ 1000) (hrs : ∀ x ∈ rs, x.1.size ≤ 1000) :
    Calls Tryz.prog 103 #[vr] w fun e w' => ∃ (L : Loc) (r : RSt), L.B = w.heap.size ∧ e = .returned (.pointer (some ⟨L.S, 0, none⟩)) ∧ StR w' L r (2 * rs.length) ∧ RelR r (newM rs) ∧ Below w.heap.size w w' := by
  obtain ⟨ra, rc, rfl, _, _⟩ := rr.form
  have hmm := @run_makeMap Tryz.prog
  obtain ⟨w5, hw5⟩ : ∃ w5, w5 = (((w.alloc (.map #[] 0)).alloc (.map #[] 0)).alloc (.map #[] 0)).alloc (.cells #[.map (some w.heap.size), .map (some (w.heap.size + 1)), .map (some (w.heap.size + 1 + 1)), .slice none 0 0] 188) := ⟨_, rfl⟩
  have hb : Below w.heap.size w w5 := by rw [hw5]; exact Bl.alloc (Bl.alloc (Bl.alloc (Bl.alloc (Below.refl _ _) _) _) _) _
  have h0 : w5.heap[w.heap.size]? = some (.map #[] 0) := by rw [hw5]; exact blk_old (blk_old (blk_old (blk_new w _) _) _) _
  have h1 : w5.heap[w.heap.size + 1]? = some (.map #[] 0) := by rw [hw5]; exact blk_old (blk_old (blk_new' _ _ (by simp)) _) _
  have h2 : w5.heap[w.heap.size + 1 + 1]? = some (.map #[] 0) := by rw [hw5]; exact blk_old (blk_new' _ _ (by simp)) _
  have hS : w5.heap[w.heap.size + 1 + 1 + 1]? = some (.cells #[.map (some w.heap.size), .map (some (w.heap.size + 1)), .map (some (w.heap.size + 1 + 1)), .slice none 0 0] 188 (0, 0)) := by rw [hw5]; exact blk_new' _ _ (by simp)
  obtain ⟨L, hL⟩ : ∃ L : Loc, L = ⟨w.heap.size + 1 + 1 + 1, w.heap.size, w.heap.size + 1, w.heap.size + 1 + 1, 0, 0, w.heap.size⟩ := ⟨_, rfl⟩
  have HF : Hid (∃ P V, StR w5 L ⟨P, V, [], []⟩ (2 * 0) ∧ RelR ⟨P, V, [], []⟩ (newM (rs.take 0)) ∧ Below w.heap.size w w5) := Lib.hid ⟨[], [], ⟨by omega, ⟨Nat.zero_le _, Nat.zero_le _, Nat.zero_le _⟩, by rw [hL]; exact ⟨by simp only; omega, by simp only; omega, by simp only; omega, by simp only; omega⟩, by rw [hL]; exact ⟨by simp only; omega, by simp only; omega, by simp only; omega⟩, ⟨_, by rw [hL]; exact hS, OwnR.nil _ _⟩, by rw [hL]; exact MapS.of_blk h0, by rw [hL]; exact MapS.of_blk h1, by rw [hL]; exact MapS.of_blk h2, fun p hp => by simp at hp⟩, relR_new, hb⟩
  have HLS : Hid (L.S = w.heap.size + 1 + 1 + 1 ∧ L.B = w.heap.size) := Lib.hid (by rw [hL]; exact ⟨rfl, rfl⟩)
  have RR := Lib.hid rr
  have HRS := Lib.hid hrs
  have HRN := Lib.hid hrn
  clear hb h0 h1 h2 hS hL rr hrs hrn
  go_enter Tryz.func103, Tryz.ntmps103
  go_wp2_with fail
  rw [← hw5, ← HLS.out.1]
  clear hw5 hmm
  go_loopw [13] (fun v wr => ∃ k : Nat, k ≤ rs.length ∧ v = .int .i64 k ∧ Hid (∃ P V, StR wr L ⟨P, V, [], []⟩ (2 * k) ∧ RelR ⟨P, V, [], []⟩ (newM (rs.take k)) ∧ Below w.heap.size w wr)) (fun v _ => rs.length - (intOf v).toNat)
  case atStart => exact ⟨0, Nat.zero_le _, rfl, HF⟩
  case round =>
    obtain ⟨k, hk, rfl, HI⟩ := hrel
    by_cases hlt : k < rs.length
    case pos =>
      obtain ⟨P, V, h3, h4, h5⟩ := HI.out
      obtain ⟨z, hz⟩ : ∃ z, rs[k]? = some z := ⟨_, List.getElem?_eq_getElem hlt⟩
      obtain ⟨b1, o1, hae, _, hb1, hc1⟩ := (RR.out.below h5).at TRe.ok.len hz TRe.ok.pos
      subst hae
      have hzz := HRS.out z (List.mem_of_getElem? hz)
      have HZ := Lib.hid hz
      obtain ⟨a, b, n⟩ := z
      have c0 : wr.cell? ⟨b1, o1 + k * 3, none⟩ = some (.string a) := hc1 0 _ rfl
      have c1 : wr.cell? ⟨b1, o1 + k * 3 + 1, none⟩ = some (.string b) := hc1 1 _ rfl
      have c2 : wr.cell? ⟨b1, o1 + k * 3 + 2, none⟩ = some (.int .i64 n) := hc1 2 _ rfl
      have hw1 : IntKind.i64.wrap ((k : Int) + 1) = ((k + 1 : Nat) : Int) := by have := HRN.out; rw [IntWalk.i64_in _ (by omega)]; omega
      have hbA : Below wr.heap.size wr (wr.alloc (.cells #[.string a, .string b, .int .i64 n] 90)) := Bl.alloc (Below.refl _ _) _
      have HA := Lib.hid (come_any L ⟨P, V, [], []⟩ (2 * k) (a, b, n) _ (h3.low hbA) (by have := HRN.out; omega) (Nat.le_trans hzz (by unfold maxLen; omega)))
      have H4 := Lib.hid (And.intro h4 (And.intro h5 (And.intro hbA (h3.low hbA).lt.2)))
      clear hz hc1 h3 h4 h5 hzz hbA
      go_wp2_with fail
      refine HA.out.mono ?_
      rintro e w4 ⟨rfl, h6, hk6⟩
      have HN : Hid (∃ P V, StR w4 L ⟨P, V, [], []⟩ (2 * (k + 1)) ∧ RelR ⟨P, V, [], []⟩ (newM (rs.take (k + 1))) ∧ Below w.heap.size w w4) := Lib.hid ⟨_, _, h6, by
        rw [List.take_add_one, HZ.out, Option.toList_some]
        exact relR_add H4.out.1 (a, b, n), (H4.out.2.1.trans (H4.out.2.2.1.mono H4.out.2.1.size)).trans ((hk6.below H4.out.2.2.2).mono (by rw [HLS.out.2]; exact Nat.le_refl _))⟩
      clear h6 hk6 HA H4
      go_wp2
      go_roundw
      case rel => exact ⟨k + 1, by omega, by go_num, HN⟩
      case measure => simp [intOf]; omega
    case neg =>
      obtain rfl : k = rs.length := by omega
      have HE : Hid (∃ (L' : Loc) (r : RSt), L'.B = w.heap.size ∧ Ending.returned (.pointer (some ⟨L.S, 0, none⟩)) = .returned (.pointer (some ⟨L'.S, 0, none⟩)) ∧ StR wr L' r (2 * rs.length) ∧ RelR r (newM rs) ∧ Below w.heap.size w wr) := Lib.hid (by
        obtain ⟨P, V, h3, h4, h5⟩ := HI.out
        rw [List.take_length] at h4
        exact ⟨L, _, HLS.out.2, rfl, h3, h4, h5⟩)
      clear HI
      go_wp2
      go_ret
      exact HE.out
section
variable {w w' : World} {L : Loc} {r : RSt} {N : Nat}
/-- a row of another type has grown. -/
theorem StR.fixed (h : StR w L r N) {row : Option Nat} (hg : w.grownBy w' row) (hn : ∀ g, row = some g → Fix w g) : StR w' L r N := by
  obtain ⟨tv, h1, h2⟩ := h.tv
  have hno : ∀ {g : Nat} {cur : Array Value} {t : TypeId}, w.heap[g]? = some (.cells cur t (0, 0)) → (t = 9 ∨ t = 188 ∨ t = 223) → some g ≠ row := fun {g cur t} hc ht e => by
    obtain ⟨cur', t', hc', f1, f2, f3, f4, f5⟩ := hn g e.symm
    rw [hc] at hc'
    injection hc' with hc'
    injection hc' with _ hc' _
    subst hc'
    rcases ht with rfl | rfl | rfl
    · exact f1 rfl
    · exact f3 rfl
    · exact f4 rfl
  have hm : ∀ {α : Type} {T : Mty α} {b : Nat} {l : Sm α}, MapS T w b l → MapS T w' b l := fun {α T b l} hM => hM.kept hg fun e => hM.noFix (hn b e.symm)
  refine ⟨h.big, h.ln, h.b, h.ne, ⟨tv, (hg.block L.S (blk_lt h1) (hno h1 (.inr (.inl rfl)))).trans h1, (ownR_k TTk L.B).keep h2 fun k e => ?_⟩, hm h.mP, hm h.mV, hm h.mF, fun p hp => (h.rf p hp).keep fun k e => ?_⟩
  · obtain ⟨_, cur, hc⟩ := (ownR_k TTk L.B).blk h2 e
    exact hg.block k (blk_lt hc) (hno hc (.inr (.inr rfl)))
  · obtain ⟨_, cur, hc⟩ := (ownO_k L.B).blk (h.rf p hp) e
    exact hg.block k (blk_lt hc) (hno hc (.inl rfl))
end
/-- where stored stands. -/
structure SdI (rs : List Rel) (l : List Fed) (at' : Int) (w0 : World) (L : Loc) (k : Nat) (A : Mdl) (r : RSt) (ov wv : Value) (rf : List (Int × Int)) (wr : World) : Prop where
  rest : runM at' (newM rs) 0 l = runM at' A k (l.drop k)
  refs : refsM at' (newM rs) 0 l = rf ++ refsM at' A k (l.drop k)
  inv : InvM A k
  logb : LogB A k
  st : StR wr L r (2 * rs.length + 200000 * k)
  rel : RelR r A
  few : rf.length ≤ k
  own1 : OwnR TNq wr w0.heap.size ov (rf.map (·.1))
  own2 : OwnR TEq wr w0.heap.size wv (rf.map (·.2))
  bel : Below w0.heap.size w0 wr
  LB : L.B = w0.heap.size
set_option maxHeartbeats 8000000 in
set_option maxRecDepth 100000 in
theorem stored_any (rs : List Rel) (l : List Fed) (at' : Int) (vr vl : Value) (w : World) (rr : RecR TRe w 0 vr rs) (rl : RecR TFe w 0 vl l)
    (hrn : rs.length ≤ 1000) (hrs : ∀ x ∈ rs, x.1.size ≤ 1000 ∧ 0 ≤ x.2.2 ∧ x.2.2 ≤ 100000) (hln : l.length ≤ 900) (hl : ∀ e ∈ l, FedR e) :
    Calls Tryz.prog 58 #[vr, vl, .int .i64 at'] w fun e w' => ∃ (L : Loc) (ov wv : Value), e = .returned (.tuple #[.pointer (some ⟨L.S, 0, none⟩), ov, wv]) ∧ (∃ r N, StR w' L r N ∧ RelR r (runM at' (newM rs) 0 l)) ∧ InvM (runM at' (newM rs) 0 l) l.length ∧
      OwnR TNq w' w.heap.size ov ((refsM at' (newM rs) 0 l).map (·.1)) ∧ OwnR TEq w' w.heap.size wv ((refsM at' (newM rs) 0 l).map (·.2)) ∧ Below w.heap.size w w' := by
  obtain ⟨ra, rc, rfl, _, _⟩ := rr.form
  obtain ⟨la, lc, rfl, _, _⟩ := rl.form
  have HNS := Lib.hid (newStoreR_any rs _ w rr hrn fun x hx => (hrs x hx).1)
  have RL := Lib.hid rl
  have HL := Lib.hid hl
  have HLN := Lib.hid hln
  have HRN := Lib.hid hrn
  have HIN := Lib.hid (newM_inv (rs := rs) fun x hx => (hrs x hx).2)
  clear rr rl hrn hrs hln hl
  go_enter Tryz.func58, Tryz.ntmps58
  go_wp2_with fail
  refine HNS.out.mono ?_
  rintro e w2 ⟨L, r, hLB, rfl, h2, hr2, hb2⟩
  have HI0 : Hid (∃ r, SdI rs l at' w L 0 (newM rs) r (.slice none 0 0) (.slice none 0 0) [] w2) := Lib.hid ⟨r, rfl, rfl, HIN.out, fun t ht => by simp [newM] at ht, by rw [Nat.mul_zero, Nat.add_zero]; exact h2, hr2, Nat.le_refl _, OwnR.nil _ _, OwnR.nil _ _, hb2, hLB⟩
  clear h2 hr2 hb2 hLB HNS
  go_wp2_with fail
  go_loopw [10, 11, 19] (fun ov wv v wr => ∃ (k : Nat) (A : Mdl) (rf : List (Int × Int)), k ≤ l.length ∧ v = .int .i64 k ∧ Hid (∃ r, SdI rs l at' w L k A r ov wv rf wr)) (fun _ _ v _ => l.length - (intOf v).toNat)
  case atStart => exact ⟨0, newM rs, [], Nat.zero_le _, rfl, HI0⟩
  case round =>
    obtain ⟨k, A, rf, hk, rfl, HI⟩ := hrel
    by_cases hlt : k < l.length
    case neg =>
      obtain rfl : k = l.length := by omega
      have HE : Hid ((∃ r N, StR wr L r N ∧ RelR r (runM at' (newM rs) 0 l)) ∧ InvM (runM at' (newM rs) 0 l) l.length ∧ OwnR TNq wr w.heap.size u10 ((refsM at' (newM rs) 0 l).map (·.1)) ∧ OwnR TEq wr w.heap.size u11 ((refsM at' (newM rs) 0 l).map (·.2)) ∧ Below w.heap.size w wr) := Lib.hid (by
        obtain ⟨r, hI⟩ := HI.out
        have h1 : runM at' (newM rs) 0 l = A := by rw [hI.rest, List.drop_length]; rfl
        have h2 : refsM at' (newM rs) 0 l = rf := by rw [hI.refs, List.drop_length]; show rf ++ [] = rf; simp
        rw [h1, h2]
        exact ⟨⟨r, _, hI.st, hI.rel⟩, hI.inv, hI.own1, hI.own2, hI.bel⟩)
      clear HI
      go_wp2
      go_ret3
      exact ⟨L, _, _, rfl, HE.out⟩
    obtain ⟨e, he⟩ : ∃ z, l[k]? = some z := ⟨_, List.getElem?_eq_getElem hlt⟩
    obtain ⟨r, hI⟩ := HI.out
    obtain ⟨b1, o1, hae, _, hb1, hc1⟩ := (RL.out.below hI.bel).at TFe.ok.len he TFe.ok.pos
    subst hae
    have HER := Lib.hid (HL.out e (List.mem_of_getElem? he))
    have HE := Lib.hid he
    obtain ⟨t, kd, fd, rk, mn, bd⟩ := e
    have c0 : wr.cell? ⟨b1, o1 + k * 6, none⟩ = some (.int .i64 t) := hc1 0 _ rfl
    have c1 : wr.cell? ⟨b1, o1 + k * 6 + 1, none⟩ = some (.int .i64 kd) := hc1 1 _ rfl
    have c2 : wr.cell? ⟨b1, o1 + k * 6 + 2, none⟩ = some (.string fd) := hc1 2 _ rfl
    have c3 : wr.cell? ⟨b1, o1 + k * 6 + 3, none⟩ = some (.string rk) := hc1 3 _ rfl
    have c4 : wr.cell? ⟨b1, o1 + k * 6 + 4, none⟩ = some (.int .i64 mn) := hc1 4 _ rfl
    have c5 : wr.cell? ⟨b1, o1 + k * 6 + 5, none⟩ = some (.string bd) := hc1 5 _ rfl
    have hw1 : IntKind.i64.wrap ((k : Int) + 1) = ((k + 1 : Nat) : Int) := by have := HLN.out; rw [IntWalk.i64_in _ (by omega)]; omega
    have hbA : Below wr.heap.size wr (wr.alloc (.cells #[.int .i64 t, .int .i64 kd, .string fd, .string rk, .int .i64 mn, .string bd] 37)) := Bl.alloc (Below.refl _ _) _
    have HIA : Hid (SdI rs l at' w L k A r u10 u11 rf (wr.alloc (.cells #[.int .i64 t, .int .i64 kd, .string fd, .string rk, .int .i64 mn, .string bd] 37))) := Lib.hid ⟨hI.rest, hI.refs, hI.inv, hI.logb, hI.st.low hbA, hI.rel, hI.few, hI.own1.below hbA, hI.own2.below hbA, Bl.trans hI.bel hbA, hI.LB⟩
    clear he hc1 hI hbA
    by_cases hat : at' < t
    case pos =>
      have hgt : t > at' := hat
      have HN : Hid (∃ r, SdI rs l at' w L (k + 1) A r u10 u11 rf (wr.alloc (.cells #[.int .i64 t, .int .i64 kd, .string fd, .string rk, .int .i64 mn, .string bd] 37))) := Lib.hid ⟨r, by
        have hI := HIA.out
        exact ⟨hI.rest.trans (runM_skip HE.out hat), hI.refs.trans (by rw [refsM_skip HE.out hat]), hI.inv.mono (Nat.le_succ k), hI.logb.mono (Nat.le_succ k), hI.st.mono (by omega) (by have h1 := HRN.out; have h2 := HLN.out; omega), hI.rel, Nat.le_succ_of_le hI.few, hI.own1, hI.own2, hI.bel, hI.LB⟩⟩
      clear HIA
      go_wp2
      go_roundw
      case rel => exact ⟨k + 1, A, rf, by omega, by go_num, HN⟩
      case measure => simp [intOf]; omega
    case neg =>
      have HAT : Hid (t ≤ at') := Lib.hid (Int.not_lt.1 hat)
      have hIA := HIA.out
      have HD := Lib.hid (rdo_any L r _ k A k (t, kd, fd, rk, mn, bd) _ hIA.st (by have h1 := HRN.out; have h2 := HLN.out; omega) hIA.rel hIA.inv (by have h2 := HLN.out; omega) HER.out (fun q hq => by have := hIA.logb q hq; omega))
      obtain ⟨R, hR⟩ : ∃ R, R = refM A (t, kd, fd, rk, mn, bd) := ⟨_, rfl⟩
      rw [← hR] at HD
      have HRR := Lib.hid hR
      clear hIA hR
      change Hid (Calls _ _ #[_, _, .agg #[.int .i64 t, .int .i64 kd, .string fd, .string rk, .int .i64 mn, .string bd]] _ _) at HD
      go_wp2_with fail
      refine HD.out.mono ?_
      rintro z w5 ⟨rfl, r5, h5, hr5, hk5⟩
      have HS5 : Hid (∀ rf', refsM at' A k (l.drop k) = rf' ++ refsM at' (stepM A k (t, kd, fd, rk, mn, bd)) (k + 1) (l.drop (k + 1)) → rf'.length ≤ 1 → ∀ ov wv W, StR W L r5 (2 * rs.length + 200000 * (k + 1)) → OwnR TNq W w.heap.size ov ((rf ++ rf').map (·.1)) → OwnR TEq W w.heap.size wv ((rf ++ rf').map (·.2)) → Below w.heap.size w W → SdI rs l at' w L (k + 1) (stepM A k (t, kd, fd, rk, mn, bd)) r5 ov wv (rf ++ rf') W) := Lib.hid fun rf' e1 e2 ov wv W hs o1 o2 hb => by
        have hI := HIA.out
        exact ⟨hI.rest.trans (runM_go HE.out (Int.not_lt.2 HAT.out)), hI.refs.trans (by rw [e1, List.append_assoc]), hI.inv.step HER.out _, hI.logb.step _, hs, hr5, by rw [List.length_append]; have := hI.few; omega, o1, o2, hb, hI.LB⟩
      have H5 : Hid (StR w5 L r5 (2 * rs.length + 200000 * (k + 1)) ∧ OwnR TNq w5 w.heap.size u10 (rf.map (·.1)) ∧ OwnR TEq w5 w.heap.size u11 (rf.map (·.2)) ∧ Below w.heap.size w w5) := Lib.hid (by
        have hI := HIA.out
        refine ⟨by rw [show 2 * rs.length + 200000 * (k + 1) = 2 * rs.length + 200000 * k + 200000 by omega]; exact h5, hI.own1.kt hk5 (by decide), hI.own2.kt hk5 (by decide), hI.bel.trans ((hk5.below hI.st.lt.2).mono (by rw [hI.LB]; exact Nat.le_refl _))⟩)
      have HFW : Hid (rf.length ≤ 900) := Lib.hid (by have h1 := HIA.out.few; have h2 := HLN.out; omega)
      clear h5 hr5 hk5 HD HIA
      by_cases hr0 : R = 0
      case pos =>
        have HN : Hid (∃ r, SdI rs l at' w L (k + 1) (stepM A k (t, kd, fd, rk, mn, bd)) r u10 u11 rf w5) := Lib.hid ⟨r5, by
          have h1 := HS5.out [] (by rw [refsM_ok HE.out (Int.not_lt.2 HAT.out) (by rw [← HRR.out]; exact hr0)]; rfl) (Nat.zero_le _) u10 u11 w5 H5.out.1 (by rw [List.append_nil]; exact H5.out.2.1) (by rw [List.append_nil]; exact H5.out.2.2.1) H5.out.2.2.2
          rw [List.append_nil] at h1
          exact h1⟩
        subst hr0
        clear HS5 H5
        go_wp2
        go_roundw
        case rel => exact ⟨k + 1, _, rf, by omega, by go_num, HN⟩
        case measure => simp [intOf]; omega
      case neg =>
        have hrb : (R == 0) = false := by simp [hr0]
        have HREF : Hid (refsM at' A k (l.drop k) = [((k : Int), R)] ++ refsM at' (stepM A k (t, kd, fd, rk, mn, bd)) (k + 1) (l.drop (k + 1))) := Lib.hid (by rw [refsM_no HE.out (Int.not_lt.2 HAT.out) (by rw [← HRR.out]; exact hr0), ← HRR.out]; rfl)
        obtain ⟨oa, oc, hov, _, _⟩ := H5.out.2.1.form
        obtain ⟨wa, wc, hwv, _, _⟩ := H5.out.2.2.1.form
        rw [List.length_map] at hov hwv
        subst hov hwv
        have hsz := H5.out.2.2.2.size
        have h1l : (rf.map (·.1)).length ≤ 1000000 := by rw [List.length_map]; have := HFW.out; omega
        have h2l : (rf.map (·.2)).length ≤ 1000000 := by rw [List.length_map]; have := HFW.out; omega
        have hbA1 : Below w5.heap.size w5 (w5.alloc (.cells #[.int .i64 (k : Int)] 3)) := Bl.alloc (Below.refl _ _) _
        go_wp2_with (at_builtin; refine wp_app_r TNq.ok rfl _ _ rfl w.heap.size _ (rf.map (·.1)) rfl (H5.out.2.1.alloc _) w5.heap.size 1 (k : Int) rfl (blk_new w5 _) rfl h1l (by simp; omega) ?_)
        intro v8 w8 hO8 hg8 hb8
        have hs8 := (H5.out.1.low hbA1).fixed hg8 (own_fix (H5.out.2.1.below hbA1) (by decide))
        have hp8 := own_apart (H5.out.2.2.1.below hbA1) (H5.out.2.1.below hbA1) hg8 (by decide)
        have hB8 : Below w.heap.size w w8 := Below.trans (Bl.trans H5.out.2.2.2 hbA1) (app_belowR (H5.out.2.1.below hbA1) hg8 (by simp; omega))
        have H8 := Lib.hid (And.intro hs8 (And.intro hO8 (And.intro hp8 hB8)))
        have hz8 := hB8.size
        obtain ⟨a8, n8, c8, rfl⟩ : ∃ a n c, v8 = .slice a n c := (by obtain ⟨a, c, h, _, _⟩ := hO8.form; exact ⟨a, _, c, h⟩)
        have hbA2 : Below w8.heap.size w8 (w8.alloc (.cells #[.int .i64 R] 30)) := Bl.alloc (Below.refl _ _) _
        clear hs8 hO8 hp8 hB8 hg8 hb8
        go_wp2_with (at_builtin; refine wp_app_r TEq.ok rfl _ _ rfl w.heap.size _ (rf.map (·.2)) rfl (H8.out.2.2.1.alloc _) w8.heap.size 1 R rfl (blk_new w8 _) rfl h2l (by simp; omega) ?_)
        intro v9 w9 hO9 hg9 hb9
        have hs9 := (H8.out.1.low hbA2).fixed hg9 (own_fix (H8.out.2.2.1.below hbA2) (by decide))
        have hp9 := own_apart (H8.out.2.1.below hbA2) (H8.out.2.2.1.below hbA2) hg9 (by decide)
        have hB9 : Below w.heap.size w w9 := Below.trans (Bl.trans H8.out.2.2.2 hbA2) (app_belowR (H8.out.2.2.1.below hbA2) hg9 (by simp; omega))
        obtain ⟨a9, n9, c9, rfl⟩ : ∃ a n c, v9 = .slice a n c := (by obtain ⟨a, c, h, _, _⟩ := hO9.form; exact ⟨a, _, c, h⟩)
        have HN : Hid (∃ r, SdI rs l at' w L (k + 1) (stepM A k (t, kd, fd, rk, mn, bd)) r (.slice a8 n8 c8) (.slice a9 n9 c9) (rf ++ [((k : Int), R)]) w9) := Lib.hid ⟨r5, HS5.out [((k : Int), R)] HREF.out (Nat.le_refl _) _ _ w9 hs9 (by rw [List.map_append]; exact hp9) (by rw [List.map_append]; exact hO9) hB9⟩
        clear hs9 hO9 hp9 hB9 hg9 hb9 HS5 H5 H8 hbA1 hbA2
        go_wp2
        go_roundw
        case rel => exact ⟨k + 1, _, _, by omega, by go_num, HN⟩
        case measure => simp [intOf]; omega
end Go.Proofs.YtilhonppgedoiaaGreatDoor
