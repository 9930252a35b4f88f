/- The reference's store of reels in memory, and the model; which feeder has a reel. Conditions: fewer than 10^9 entries a map; names of at most 2^47 bytes. · The reference's store: why it refuses an event. Conditions: an event as the checks let it through, at most 900 events before it. -/
import Derived.Test.YtcfeoapbbkfbnaaGreatDoorReR
import Derived.Maps.RangeWalk
import Derived.Sort.KeysCollected
import Derived.Test.YtcfeoapbbkfbnaaGreatDoorReB
namespace Go.Proofs.YtcfeoapbbkfbnaaGreatDoor
open Go.RowKit Go.Sort Go.Maps Go.Lib

def baR (k : Bs) : ByteArray := ⟨k.toArray⟩
theorem baR_list (k : Bs) : (baR k).data.toList = k := by simp [baR]
theorem next_sr {α : Type} {T : Mty α} (hT : T.Ok) {w : World} {ops : Array Oper} {rest : List Oper} {o : Oper} {a : Act} {Q : Exit → Act → World → Prop}
    (hg : o.guard = none) (it : Operand) (hop : o.op = Op.next it false) {b r n : Nat} {l : Sm α} {left : Lit → Bool} {cnt : Nat}
    (hit : a.eval it = .pointer (some ⟨r, 0, none⟩)) (h : w.ranges Tryz.prog 9 T.R b r n (.map (smD T l)) left cnt)
    (hDone : cnt = 0 → (∀ kl, left kl = false) → wpList Tryz.prog ops Q rest (a.put o.dst (.tuple #[.bool false])) w)
    (hMore : ∀ (x : Bs) (y : α) (w' : World) (cnt' : Nat), x.length ≤ maxLen → left (.string x) = true → l.get x = some y → w'.ranges Tryz.prog 9 T.R b r n (.map (smD T l)) (fun z => left z && !z.sameKey (.string x)) cnt' → cnt' < cnt →
      w.grownBy w' (some r) → w'.heap.size = w.heap.size → (Instr.entry (.pointer (some ⟨r, 0, none⟩))).run Tryz.prog w' = .ok (.tuple #[.string (baR x), T.V y]) w' → wpList Tryz.prog ops Q rest (a.put o.dst (.tuple #[.bool true, .string (baR x), T.V y])) w') :
    wpList Tryz.prog ops Q (o :: rest) a w :=
  wpList_next_ranges w hg it hop 9 strKd T.R encStr id (fun key kl hkey => by obtain ⟨x, hx, _⟩ := Maps.keyOf_str (k := 9) Tryz.underlying9 hkey; exact ⟨x, hx⟩) (fun v y _ => ⟨v, rfl⟩)
    b r n _ left cnt hit h hDone (fun x cv kl y w' cnt' hkey hlk hv hat hrg hlt hgr hsz hen => by
      obtain ⟨x', ex, rfl, hwx⟩ := Maps.keyOf_str (k := 9) Tryz.underlying9 hkey
      have e := encStr_inj ex
      subst e
      have hh := has_true_of_atKey hat
      rw [smD_has] at hh
      obtain ⟨u, hu⟩ : ∃ u, l.get x = some u := Option.isSome_iff_exists.1 hh
      have h1 := hat .nil
      rw [smD_get, hu] at h1
      obtain ⟨y1, y2⟩ := y
      have h2 : T.R cv = some (T.d u, y2) := by rw [show T.d u = y1 from h1]; exact hv
      obtain rfl := hT.inv _ _ _ h2
      exact hMore x u w' cnt' hwx hlk hu hrg hlt hgr hsz hen)
theorem OwnO.rec {w : World} {B : Nat} {v : Value} {l : List ByteArray} (h : OwnO w B v l) : RecR TS w 0 v l := by
  rcases h with ⟨rfl, rfl⟩ | ⟨g, o, cap, cur, rfl, hb, hg, h3, h4, h5, h6⟩
  · exact RecR.nil _ _
  · refine ⟨some ⟨g, o, none⟩, cap, rfl, h3, h4, fun j x hj => ⟨g, o, rfl, Nat.zero_le _, blk_lt hg, ?_⟩⟩
    rw [strs_flat, ← h6] at hj
    have hlt : j < l.length := by
      have := (List.getElem?_eq_some_iff.1 hj).1
      rw [List.length_take] at this
      omega
    rw [List.getElem?_take_of_lt hlt, List.getElem?_drop] at hj
    rw [blk_cell hg]
    simpa using hj
def TTk : Rty Tkn := { e := 171, S := 138, k := 6, b := 72, z := .agg #[.int .i64 0, .int .i64 0, .string ByteArray.empty, .string ByteArray.empty, .string ByteArray.empty, .int .i64 0], f := fun x => [.int .i64 x.1, .int .i64 x.2.1, .string x.2.2.1, .string x.2.2.2.1, .string x.2.2.2.2.1, .int .i64 x.2.2.2.2.2] }
theorem TTk.ok : TTk.Ok := ⟨by kernel_rfl, Tryz.underlying138, rfl, by decide, fun _ => rfl, fun x u hu => by simp [TTk] at hu; rcases hu with rfl | rfl | rfl | rfl | rfl | rfl <;> rfl, by decide⟩
/-- the reference's store: parts, what is left, feeders, what was taken. -/
structure RSt where
  P : Sm ByteArray
  V : Sm Int
  F : Fds
  T : List Tkn
structure StR (w : World) (L : Loc) (r : RSt) (N : Nat) : Prop where
  big : N ≤ 1000000000
  ln : r.P.length ≤ N ∧ r.V.length ≤ N ∧ r.F.length ≤ N
  b : L.B ≤ L.S ∧ L.B ≤ L.m0 ∧ L.B ≤ L.m1 ∧ L.B ≤ L.m2
  ne : L.m0 ≠ L.m1 ∧ L.m0 ≠ L.m2 ∧ L.m1 ≠ L.m2
  tv : ∃ tv, w.heap[L.S]? = some (.cells #[.map (some L.m0), .map (some L.m1), .map (some L.m2), tv] 140 (0, 0)) ∧ OwnR TTk w L.B tv r.T
  mP : MapS TMs w L.m0 r.P
  mV : MapS TMi w L.m1 r.V
  mF : MapS TMh w L.m2 (hdS r.F)
  rf : ∀ p ∈ r.F, OwnO w L.B (hdrV p.2.1) p.2.2
section
variable {w w' : World} {L : Loc} {r : RSt} {N : Nat}
theorem StR.low (h : StR w L r N) (hb : Below w.heap.size w w') : StR w' L r N := by
  obtain ⟨tv, h1, h2⟩ := h.tv
  exact ⟨h.big, h.ln, h.b, h.ne, ⟨tv, blk_below h1 hb, h2.below hb⟩, h.mP.below hb, h.mV.below hb, h.mF.below hb, fun p hp => (h.rf p hp).below hb⟩
theorem StR.lt (h : StR w L r N) : L.S < w.heap.size ∧ L.B ≤ w.heap.size := by
  obtain ⟨tv, h1, _⟩ := h.tv
  exact ⟨blk_lt h1, Nat.le_trans h.b.1 (Nat.le_of_lt (blk_lt h1))⟩
theorem StR.mono {M : Nat} (h : StR w L r N) (hN : N ≤ M) (hM : M ≤ 1000000000) : StR w L r M := by
  have := h.ln
  exact ⟨hM, ⟨by omega, by omega, by omega⟩, h.b, h.ne, h.tv, h.mP, h.mV, h.mF, h.rf⟩
theorem StR.cells (h : StR w L r N) : w.cell? ⟨L.S, 0, none⟩ = some (.map (some L.m0)) ∧ w.cell? ⟨L.S, 1, none⟩ = some (.map (some L.m1)) ∧ w.cell? ⟨L.S, 2, none⟩ = some (.map (some L.m2)) := by
  obtain ⟨tv, h1, _⟩ := h.tv
  exact ⟨blk_cell h1 0, blk_cell h1 1, blk_cell h1 2⟩
/-- one of the maps has turned: itself, the rows stay. -/
theorem StR.off (h : StR w L r N) {g : Nat} (hm : ∀ cur t, w.heap[g]? ≠ some (.cells cur t (0, 0))) (hg : w.grownBy w' (some g)) : (∃ tv, w'.heap[L.S]? = some (.cells #[.map (some L.m0), .map (some L.m1), .map (some L.m2), tv] 140 (0, 0)) ∧ OwnR TTk w' L.B tv r.T) ∧ (∀ p ∈ r.F, OwnO w' L.B (hdrV p.2.1) p.2.2) := by
  obtain ⟨tv, h1, h2⟩ := h.tv
  refine ⟨⟨tv, (hg.block _ (blk_lt h1) fun e => by injection e with e; exact hm _ _ (e ▸ h1)).trans h1, (ownR_k TTk L.B).keep h2 fun k e => ?_⟩, fun p hp => (h.rf p hp).keep fun k e => ?_⟩
  · obtain ⟨_, cur, hc⟩ := (ownR_k TTk L.B).blk h2 e
    exact hg.block k (blk_lt hc) fun e1 => by injection e1 with e1; exact hm _ _ (e1 ▸ hc)
  · obtain ⟨_, cur, hc⟩ := (ownO_k L.B).blk (h.rf p hp) e
    exact hg.block k (blk_lt hc) fun e1 => by injection e1 with e1; exact hm _ _ (e1 ▸ hc)
theorem StR.putV (h : StR w L r N) (hN : N + 1 ≤ 1000000000) (k : ByteArray) (hk : k.size ≤ maxLen) (x : Int) :
    ∃ w', (Instr.mapUpdate 128 (.map (some L.m1)) (.string k) (.int .i64 x)).run Tryz.prog w = .ok () w' ∧ StR w' L { r with V := r.V.put k.data.toList x } (N + 1) ∧ Kt L.B w w' := by
  obtain ⟨n1, n2, n3⟩ := h.ln
  obtain ⟨w', hr, hm, ht⟩ := h.mV.put TMi.ok k hk x (lt_max n2 h.big)
  have hg := ht.grown
  have hp := Sm.put_le r.V k.data.toList x
  obtain ⟨h1, h2⟩ := h.off (fun cur t => h.mV.noCells cur t) hg
  exact ⟨w', hr, ⟨hN, ⟨by show r.P.length ≤ _; omega, by show (r.V.put _ _).length ≤ _; omega, by show r.F.length ≤ _; omega⟩, h.b, h.ne, h1, h.mP.kept hg (some_ne h.ne.1), hm, h.mF.kept hg (some_ne h.ne.2.2.symm), h2⟩, Kt.of_gr hg h.b.2.2.1 h.mV.noFix⟩
theorem StR.putF (h : StR w L r N) {M : Nat} (hM : M ≤ 1000000000) (k : ByteArray) (hk : k.size ≤ maxLen) (hd : Hdr) (l : List ByteArray) (hO : OwnO w L.B (hdrV hd) l) (hNM : N ≤ M) (hl : (r.F.put k.data.toList (hd, l)).length ≤ M) :
    ∃ w', (Instr.mapUpdate 126 (.map (some L.m2)) (.string k) (hdrV hd)).run Tryz.prog w = .ok () w' ∧ StR w' L { r with F := r.F.put k.data.toList (hd, l) } M ∧ Kt L.B w w' := by
  obtain ⟨n1, n2, n3⟩ := h.ln
  obtain ⟨w', hr, hm, ht⟩ := h.mF.put TMh.ok k hk hd (by rw [hdS_len]; exact lt_max n3 h.big)
  have hg := ht.grown
  obtain ⟨h1, h2⟩ := h.off (fun cur t => h.mF.noCells cur t) hg
  have hO' : OwnO w' L.B (hdrV hd) l := hO.keep fun g e => by
    obtain ⟨_, cur, hc⟩ := (ownO_k L.B).blk hO e
    exact hg.block g (blk_lt hc) fun e1 => by injection e1 with e1; exact h.mF.noCells _ _ (e1 ▸ hc)
  rw [← hdS_put (v := (hd, l))] at hm
  refine ⟨w', hr, ⟨hM, ⟨by show r.P.length ≤ _; omega, by show r.V.length ≤ _; omega, hl⟩, h.b, h.ne, h1, h.mP.kept hg (some_ne h.ne.2.1), h.mV.kept hg (some_ne h.ne.2.2), hm, fun p hp => ?_⟩, Kt.of_gr hg h.b.2.2.2 h.mF.noFix⟩
  rcases (Sm.ins_mem p).1 hp with rfl | hp
  · exact hO'
  · exact h2 p (List.mem_filter.1 hp).1
theorem StR.delF (h : StR w L r N) (k : ByteArray) (hk : k.size ≤ maxLen) (ty : TypeId) :
    ∃ w', (Builtin.delete_ #[126, 9] ty #[.map (some L.m2), .string k]).run Tryz.prog w = .ok (.tuple #[]) w' ∧ StR w' L { r with F := r.F.del k.data.toList } N ∧ Kt L.B w w' := by
  obtain ⟨n1, n2, n3⟩ := h.ln
  obtain ⟨w', hr, hm, ht⟩ := h.mF.del TMh.ok k hk ty
  have hg := ht.grown
  have hp : (r.F.del k.data.toList).length ≤ r.F.length := List.length_filter_le _ _
  obtain ⟨h1, h2⟩ := h.off (fun cur t => h.mF.noCells cur t) hg
  rw [← hdS_del] at hm
  exact ⟨w', hr, ⟨h.big, ⟨n1, n2, by show (r.F.del _).length ≤ _; omega⟩, h.b, h.ne, h1, h.mP.kept hg (some_ne h.ne.2.1), h.mV.kept hg (some_ne h.ne.2.2), hm, fun p hp => h2 p (List.mem_filter.1 hp).1⟩, Kt.of_gr hg h.b.2.2.2 h.mF.noFix⟩
theorem StR.rowB (h : StR w L r N) (k : ByteArray) (hk : k.size ≤ maxLen) : ∃ hd, (∀ W, Below w.heap.size w W → (Instr.lookup 126 (.map (some L.m2)) (.string k) false).run Tryz.prog W = .ok (hdrV hd) W) ∧ OwnO w L.B (hdrV hd) (rowO r.F k) := by
  refine ⟨((hdS r.F).get k.data.toList).getD TMh.z, fun W hW => (h.mF.below hW).look TMh.ok k hk, ?_⟩
  rw [hdS_get]
  unfold rowO
  cases hg : r.F.get k.data.toList with
  | none => exact .inl ⟨rfl, rfl⟩
  | some p => exact h.rf _ (Sm.get_mem hg)
theorem StR.leftB (h : StR w L r N) (k : ByteArray) (hk : k.size ≤ maxLen) : ∀ W, Below w.heap.size w W → (Instr.lookup 128 (.map (some L.m1)) (.string k) false).run Tryz.prog W = .ok (.int .i64 (lfI r.V k)) W := fun _ hW => (h.mV.below hW).look TMi.ok k hk
def ptR (P : Sm ByteArray) (k : ByteArray) : ByteArray := (P.get k.data.toList).getD ByteArray.empty
theorem StR.partB (h : StR w L r N) (k : ByteArray) (hk : k.size ≤ maxLen) : ∀ W, Below w.heap.size w W → (Instr.lookup 125 (.map (some L.m0)) (.string k) false).run Tryz.prog W = .ok (.string (ptR r.P k)) W := fun _ hW => (h.mP.below hW).look TMs.ok k hk
end
/-- the reference's store holds what the model tells. -/
structure RelR (r : RSt) (A : Mdl) : Prop where
  left : lfI r.V = A.left
  part : ∀ x, ptR r.P x = A.part x
  row : ∀ f, rowO r.F f = A.row f
  log : r.T = A.log
theorem lfI_put (V : Sm Int) (k : ByteArray) (n : Int) : lfI (V.put k.data.toList n) = updL (lfI V) k n := by
  funext x
  unfold lfI updL
  by_cases h : x = k
  · subst h; rw [Sm.get_put_same, if_pos rfl]; rfl
  · rw [Sm.get_put_other (fun e => h (ba_ext e).symm), if_neg h]
theorem baR_data (b : ByteArray) : baR b.data.toList = b := ba_ext (baR_list _)
set_option maxHeartbeats 4000000 in
set_option maxRecDepth 100000 in
theorem where_any (L : Loc) (r : RSt) (N n : Nat) (A : Mdl) (x : ByteArray) (w : World) (h : StR w L r N) (hR : RelR r A) (hI : InvM A n) (hn : n ≤ 900) :
    Calls Tryz.prog 84 #[.pointer (some ⟨L.S, 0, none⟩), .string x] w fun e w' => e = .returned (.string (A.pos x)) ∧ Below w.heap.size w w' := by
  have c2 := h.cells.2.2
  have hO2 := h.mF.2
  obtain ⟨fl, hfl⟩ : ∃ fl, fl = (hdS r.F).length := ⟨_, rfl⟩
  rw [← hfl] at hO2
  have H := Lib.hid h
  have HR := Lib.hid hR
  have HI := Lib.hid hI
  have HN := Lib.hid hn
  have HNO : Hid (∀ left : Lit → Bool, left = (fun k => Maps.has (DataW.map (smD TMh (hdS r.F))) k) → ∀ k y, r.F.get k = some y → left (.string k) = false → x ∉ y.2) := Lib.hid fun left hl k y hg h0 => by
    subst hl
    simp only at h0
    rw [smD_has] at h0
    unfold Sm.has at h0
    rw [hdS_get, hg] at h0
    cases h0
  have lS := h.lt.1
  clear h hR hI hn hfl
  go_enter Tryz.func84, Tryz.ntmps84
  go_wp2_with (first
    | (at_range; refine wpList_range_own _ rfl _ 126 rfl 9 45 strKd Tryz.underlying126 _ L.m2 fl (.map (smD TMh (hdS r.F))) rfl hO2 ?_; intro w0 hrg0 hg0 hs0)
    | go_in)
  go_frame
  go_loopw [] (fun wr => ∃ (left : Lit → Bool) (cnt : Nat), wr.ranges Tryz.prog 9 TMh.R L.m2 w.heap.size fl (.map (smD TMh (hdS r.F))) left cnt ∧ Hid (∀ k y, r.F.get k = some y → left (.string k) = false → x ∉ y.2) ∧ Hid (Below w.heap.size w wr) ∧ w.heap.size < wr.heap.size) (fun wr => wr.rangeLeft L.m2 w.heap.size)
  case atStart => exact ⟨_, _, hrg0, Lib.hid (HNO.out _ rfl), Lib.hid (Gr.below_none hg0), by omega⟩
  case round =>
    obtain ⟨left, cnt, hrg, HA, HB, hsz⟩ := hrel
    go_wp2_with (first
      | (at_next; refine next_sr TMh.ok rfl _ rfl rfl hrg ?_ ?_)
      | go_in)
    · intro _ hl0
      have HP : Hid (A.pos x = ByteArray.empty) := Lib.hid (Classical.byContradiction fun h0 => by
        have h1 := HI.out.in2 x h0
        rw [← HR.out.row] at h1
        unfold rowO at h1
        cases hg : r.F.get (A.pos x).data.toList with
        | none => rw [hg] at h1; simp at h1
        | some y => rw [hg] at h1; exact HA.out _ y hg (hl0 _) h1)
      go_wp2
      go_ret
      exact ⟨by rw [HP.out] <;> rfl, HB.out⟩
    · intro k ha hb hc w1 cnt1 hxl hlk hget hrg1 hlt hg1 hsz1 hen
      obtain ⟨hd, hhd⟩ : ∃ hd : Hdr, hd = (ha, hb, hc) := ⟨_, rfl⟩
      rw [← hhd] at hget hen ⊢
      clear hhd
      have hb1 : Below w.heap.size w w1 := Below.trans HB.out (Gr.below hg1 (Nat.le_refl _) (Nat.le_of_lt hsz))
      have HB1 := Lib.hid hb1
      rw [hdS_get] at hget
      obtain ⟨l, hgl⟩ : ∃ l, r.F.get k = some (hd, l) := by
        cases hg : r.F.get k with
        | none => rw [hg] at hget; cases hget
        | some p => rw [hg] at hget; injection hget with hget; exact ⟨p.2, by rw [← hget]⟩
      have hrow : A.row (baR k) = l := by
        rw [← HR.out.row]
        unfold rowO
        rw [baR_list, hgl]
      have hll : l.length ≤ 100000 := by have h1 := HI.out.ln (baR k); have h2 := HN.out; rw [hrow] at h1; omega
      have HCO := Lib.hid (ContainsS_any l (hdrV hd) x w1 hll (((H.out.low hb1).rf _ (Sm.get_mem hgl)).rec))
      obtain ⟨cb, hcb⟩ : ∃ cb, cb = Lib.containsS l x := ⟨_, rfl⟩
      rw [← hcb] at HCO
      have HCB := Lib.hid hcb
      have HROW := Lib.hid hrow
      have HGL := Lib.hid hgl
      have hen2 : (Instr.entry (.pointer (some ⟨w.heap.size, 0, none⟩))).run Tryz.prog w1 = .ok (.tuple #[.string (baR k), hdrV hd]) w1 := hen
      obtain ⟨hv, hhv⟩ : ∃ hv, hv = hdrV hd := ⟨_, rfl⟩
      rw [← hhv] at HCO hen2
      clear hb1 hget hgl hrow hll hcb hen hhv
      cases cb
      case true =>
        have HP : Hid (A.pos x = baR k) := Lib.hid (HI.out.in1 _ x (by rw [HROW.out]; exact (Lib.containsS_iff l x).1 HCB.out.symm))
        go_wp2_with fail
        refine HCO.out.mono ?_
        rintro e w2 ⟨rfl, rfl⟩
        go_wp2
        go_ret
        exact ⟨by rw [HP.out] <;> rfl, HB1.out⟩
      case false =>
        have HA1 : Hid (∀ k' y, r.F.get k' = some y → (left (.string k') && !(Lit.string k').sameKey (.string k)) = false → x ∉ y.2) := Lib.hid fun k' y hg h0 => by
          rw [sm_same] at h0
          by_cases hk : k' = k
          · subst hk
            rw [HGL.out] at hg
            injection hg with hg
            rw [← hg]
            intro hm
            have := (Lib.containsS_iff l x).2 hm
            rw [← HCB.out] at this
            cases this
          · rw [decide_eq_false hk] at h0
            simp at h0
            exact HA.out k' y hg h0
        go_wp2_with fail
        refine HCO.out.mono ?_
        rintro e w2 ⟨rfl, rfl⟩
        go_wp2
        go_roundw
        case rel => exact ⟨_, cnt1, hrg1, HA1, HB1, by omega⟩
        case measure => rw [hrg1.left_eq, hrg.left_eq]; exact hlt
end Go.Proofs.YtcfeoapbbkfbnaaGreatDoor
namespace Go.Proofs.YtcfeoapbbkfbnaaGreatDoor
open Go.RowKit Go.Sort Go.Maps

theorem ba_nil (s : ByteArray) : s = ByteArray.empty ↔ s.toList = [] := by
  rw [← ba_eq_iff]
  have : ByteArray.empty.toList = [] := by rw [ByteArray.toList_eq]; rfl
  rw [this]
theorem refM_4 (A : Mdl) (a : Int) (fd rk : ByteArray) (mn : Int) (bd : ByteArray) : refM A (a, 4, fd, rk, mn, bd) = if A.row fd = [] then 8 else if sumL A.left (A.row fd) < mn then 16 else 0 := by
  unfold refM; rw [if_neg (show ¬ (4 : Int) = 1 by decide), if_neg (show ¬ (4 : Int) = 2 by decide), if_neg (show ¬ (4 : Int) = 3 by decide), if_pos (show (4 : Int) = 4 from rfl)]
set_option maxHeartbeats 16000000 in
set_option maxRecDepth 100000 in
theorem refuses_any (L : Loc) (s : RSt) (N n : Nat) (A : Mdl) (e : Fed) (w : World) (h : StR w L s N) (hR : RelR s A) (hI : InvM A n) (hn : n ≤ 900) (he : FedR e) :
    Calls Tryz.prog 155 #[.pointer (some ⟨L.S, 0, none⟩), fedV e] w fun r w' => r = .returned (.int .i64 (refM A e)) ∧ Below w.heap.size w w' := by
  obtain ⟨at', kd, fd, rk, mn, bd⟩ := e
  have hfd : fd.size ≤ maxLen := Nat.le_trans he.fd (by unfold maxLen; omega)
  have hrk : rk.size ≤ maxLen := Nat.le_trans he.rl (by unfold maxLen; omega)
  have hk : kd = 1 ∨ kd = 2 ∨ kd = 3 ∨ kd = 4 ∨ kd = 5 := by have h1 : 1 ≤ kd := he.k1; have h2 : kd ≤ 5 := he.k5; omega
  obtain ⟨w1, hw1⟩ : ∃ w1, w1 = w.alloc (.cells #[.int .i64 at', .int .i64 kd, .string fd, .string rk, .int .i64 mn, .string bd] 76) := ⟨_, rfl⟩
  have hb1 : Below w.heap.size w w1 := by rw [hw1]; exact Bl.alloc (Below.refl _ _) _
  have hx1 : w1.heap[w.heap.size]? = some (.cells #[.int .i64 at', .int .i64 kd, .string fd, .string rk, .int .i64 mn, .string bd] 76 (0, 0)) := by rw [hw1]; exact blk_new w _
  have h1 := h.low hb1
  obtain ⟨l, hl⟩ : ∃ l, l = A.row fd := ⟨_, rfl⟩
  obtain ⟨hd, hlkf, hO⟩ := h1.rowB fd hfd
  rw [hR.row, ← hl] at hO
  obtain ⟨ra, rc, hv, _, _⟩ := hO.form
  rw [hv] at hlkf hO
  have hlf : ∀ m, (Instr.lookup 126 (.map (some L.m2)) (.string fd) false).run Tryz.prog (w1.drewN m) = .ok (.slice ra l.length rc) (w1.drewN m) := fun m => hlkf _ (Bl.drewN (Below.refl _ _) m)
  have H1 := Lib.hid h1
  have HB1 := Lib.hid hb1
  have HRR := Lib.hid hR
  have HII := Lib.hid hI
  have HL := Lib.hid hl
  have HNN := Lib.hid hn
  have HRK := Lib.hid hrk
  have HO := Lib.hid hO
  have HFD := Lib.hid hfd
  have HWH := Lib.hid (fun W (hW : Below w1.heap.size w1 W) => where_any L s N n A rk W (h1.low hW) hR hI hn)
  have c2 : w1.cell? ⟨L.S, 2, none⟩ = some (.map (some L.m2)) := h1.cells.2.2
  have x2 : w1.cell? ⟨w.heap.size, 2, none⟩ = some (.string fd) := blk_cell hx1 2
  have lS := h1.lt.1
  have lx := blk_lt hx1
  have HW : Hid (∀ W, Below w1.heap.size w1 W → W.cell? ⟨L.S, 0, none⟩ = some (.map (some L.m0)) ∧ W.cell? ⟨w.heap.size, 1, none⟩ = some (.int .i64 kd) ∧ W.cell? ⟨w.heap.size, 2, none⟩ = some (.string fd) ∧ W.cell? ⟨w.heap.size, 3, none⟩ = some (.string rk) ∧ W.cell? ⟨w.heap.size, 4, none⟩ = some (.int .i64 mn) ∧ L.S < W.heap.size ∧ w.heap.size < W.heap.size) := Lib.hid fun W hW => by
    have h2 := h1.low hW
    have h3 := blk_below hx1 hW
    exact ⟨h2.cells.1, blk_cell h3 1, blk_cell h3 2, blk_cell h3 3, blk_cell h3 4, h2.lt.1, blk_lt h3⟩
  change Calls _ _ #[_, .agg #[.int .i64 at', .int .i64 kd, .string fd, .string rk, .int .i64 mn, .string bd]] _ _
  clear h h1 hO hv hx1 hb1 hlkf hl hR hI he hfd hrk hn
  rcases hk with rfl | rfl | rfl | rfl | rfl
  all_goals (
    go_enter Tryz.func155, Tryz.ntmps155
    go_wp2_with fail
    rw [← hw1]
    clear hw1
    go_quiet (fail)
    clear c2 x2 lS lx hlf
    have HB3 : Hid (Below w1.heap.size w1 (w1.drewN nq)) := Lib.hid (Bl.drewN (Below.refl _ _) _)
    have HBW : Hid (∀ W, Below (w1.drewN nq).heap.size (w1.drewN nq) W → Below w.heap.size w W) := Lib.hid fun W hW => Bl.trans HB1.out (Bl.trans HB3.out hW)
    obtain ⟨c0, x1, x2, x3, x4, lS, lx⟩ := HW.out _ HB3.out
    generalize w1.drewN nq = w3 at *)
  · by_cases hl0 : l = []
    · have HW3 := Lib.hid (HWH.out w3 HB3.out)
      obtain ⟨pv, hpv⟩ : ∃ pv, pv = A.pos rk := ⟨_, rfl⟩
      rw [← hpv] at HW3
      by_cases hp0 : pv = ByteArray.empty
      · have HR0 : Hid (refM A (at', 1, fd, rk, mn, bd) = 0) := Lib.hid (by rw [refM_1, ← HL.out, if_pos ⟨hl0, by rw [← hpv]; exact hp0⟩])
        have hp1 := (ba_nil _).1 hp0
        have hp2 : pv.toList.isEmpty = true := by rw [hp1]; rfl
        clear hpv hp0
        subst hl0
        go_wp2_with fail
        refine HW3.out.mono ?_
        rintro r w4 ⟨rfl, hb4⟩
        have HF := Lib.hid (HBW.out _ hb4)
        clear hb4
        go_wp2
        go_ret
        exact ⟨ret_int HR0.out.symm, HF.out⟩
      · have HR0 : Hid (refM A (at', 1, fd, rk, mn, bd) = 11) := Lib.hid (by rw [refM_1, if_neg (fun h => hp0 (by rw [hpv]; exact h.2))])
        have hp1 : ¬ pv.toList = [] := fun h => hp0 ((ba_nil _).2 h)
        have hp2 : pv.toList.isEmpty = false := by cases hq : pv.toList with
          | nil => exact absurd hq hp1
          | cons a b => rfl
        clear hpv hp0
        subst hl0
        go_wp2_with fail
        refine HW3.out.mono ?_
        rintro r w4 ⟨rfl, hb4⟩
        have HF := Lib.hid (HBW.out _ hb4)
        clear hb4
        go_wp2
        go_ret
        exact ⟨ret_int HR0.out.symm, HF.out⟩
    · have HR0 : Hid (refM A (at', 1, fd, rk, mn, bd) = 11) := Lib.hid (by rw [refM_1, ← HL.out, if_neg (fun h => hl0 h.1)])
      have hp1 : (0 : Int) < (l.length : Int) := by have := List.length_pos_iff.2 hl0; omega
      have hp2 : 0 < l.length := by omega
      clear hl0
      have HF := Lib.hid (HBW.out _ (Below.refl _ _))
      go_wp2
      go_ret
      exact ⟨ret_int HR0.out.symm, HF.out⟩
  · have HF0 := Lib.hid (HBW.out _ (Below.refl _ _))
    by_cases hl0 : l = []
    · have HR0 : Hid (refM A (at', 2, fd, rk, mn, bd) = 8) := Lib.hid (by rw [refM_2, ← HL.out, if_pos hl0])
      subst hl0
      go_wp2
      go_ret
      exact ⟨ret_int HR0.out.symm, HF0.out⟩
    have hq1 : (0 : Int) < (l.length : Int) := by have := List.length_pos_iff.2 hl0; omega
    have hq2 : 0 < l.length := by omega
    have hq3 : ((l.length : Int) == 0) = false := by simp; omega
    have hq4 : ¬ (l.length : Int) = 0 := by omega
    have hq5 : ¬ l.length = 0 := by omega
    have HL0 := Lib.hid hl0
    clear hl0
    have HW3 := Lib.hid (HWH.out w3 HB3.out)
    obtain ⟨pv, hpv⟩ : ∃ pv, pv = A.pos rk := ⟨_, rfl⟩
    rw [← hpv] at HW3
    by_cases hp0 : pv = ByteArray.empty
    case neg =>
      have HR0 : Hid (refM A (at', 2, fd, rk, mn, bd) = 11) := Lib.hid (by rw [refM_2, ← HL.out, if_neg HL0.out, if_pos (by rw [← hpv]; exact hp0)])
      have hp1 : ¬ pv.toList = [] := fun h => hp0 ((ba_nil _).2 h)
      have hp2 : pv.toList.isEmpty = false := by cases hq : pv.toList with
        | nil => exact absurd hq hp1
        | cons a b => rfl
      clear hpv hp0
      go_wp2_with fail
      refine HW3.out.mono ?_
      rintro r w4 ⟨rfl, hb4⟩
      have HF := Lib.hid (HBW.out _ hb4)
      clear hb4
      go_wp2
      go_ret
      exact ⟨ret_int HR0.out.symm, HF.out⟩
    have hp1 := (ba_nil _).1 hp0
    have hp2 : pv.toList.isEmpty = true := by rw [hp1]; rfl
    have HP0 : Hid (A.pos rk = ByteArray.empty) := Lib.hid (by rw [← hpv]; exact hp0)
    clear hpv hp0
    go_wp2_with fail
    refine HW3.out.mono ?_
    rintro r w4 ⟨rfl, hb4⟩
    have HF := Lib.hid (HBW.out _ hb4)
    have HB4 := Lib.hid (Bl.trans HB3.out hb4)
    clear hb4 c0 x1 x2 x3 x4 lS lx HW3
    obtain ⟨c0, x1, x2, x3, x4, lS, lx⟩ := HW.out _ HB4.out
    obtain ⟨x, r, hxr⟩ : ∃ x r, l = x :: r := by
      cases l with
      | nil => exact absurd rfl HL0.out
      | cons x r => exact ⟨x, r, rfl⟩
    have hxs : x.size ≤ maxLen := Nat.le_trans (HII.out.sz fd x (by rw [← HL.out, hxr]; simp)) (by unfold maxLen; omega)
    obtain ⟨g, o, cap, hva, d0⟩ := (HO.out.below HB4.out).at (k := 0) (x := x) (by rw [hxr]; rfl)
    injection hva with e1 e2 e3
    subst e1 e3
    rw [Nat.add_zero] at d0
    have lg := World.block_lt_of_cell? _ _ d0
    simp only at lg
    have h4 := H1.out.low HB4.out
    obtain ⟨p1, hp1e⟩ : ∃ p, p = ptR s.P rk := ⟨_, rfl⟩
    obtain ⟨p2, hp2e⟩ : ∃ p, p = ptR s.P x := ⟨_, rfl⟩
    have hq1a := fun m => h4.partB rk HRK.out _ (Bl.drewN (Below.refl w4.heap.size w4) m)
    have hq2a := fun m => h4.partB x hxs _ (Bl.drewN (Below.refl w4.heap.size w4) m)
    rw [← hp1e] at hq1a
    rw [← hp2e] at hq2a
    have HP12 : Hid (p1 = A.part rk ∧ p2 = A.part (l.headD ByteArray.empty)) := Lib.hid ⟨by rw [hp1e, HRR.out.part], by rw [hp2e, HRR.out.part, hxr]; rfl⟩
    have HBW4 : Hid (∀ m, Below w.heap.size w (w4.drewN m)) := Lib.hid fun m => Bl.drewN HF.out m
    clear hxs h4 hp1e hp2e hxr e2
    by_cases hpp : p1 = p2
    · have hpb : (p1.toList == p2.toList) = true := by rw [hpp]; simp
      have hpe : p1.toList = p2.toList := by rw [hpp]
      have HR0 : Hid (refM A (at', 2, fd, rk, mn, bd) = 0) := Lib.hid (by rw [refM_2, ← HL.out, if_neg HL0.out, if_neg (fun h => h HP0.out), if_neg (fun h => h (by rw [← HP12.out.1, ← HP12.out.2, hpp]))])
      clear hpp
      go_wp2_with fail
      go_quiet (fail)
      have HFF := Lib.hid (HBW4.out nq)
      go_wp2
      go_ret
      exact ⟨ret_int HR0.out.symm, HFF.out⟩
    · have hpe : ¬ p1.toList = p2.toList := fun h => hpp ((ba_eq_iff _ _).1 h)
      have hpb : (p1.toList == p2.toList) = false := by simpa using hpe
      have HR0 : Hid (refM A (at', 2, fd, rk, mn, bd) = 10) := Lib.hid (by rw [refM_2, ← HL.out, if_neg HL0.out, if_neg (fun h => h HP0.out), if_pos (fun h => hpp (by rw [HP12.out.1, HP12.out.2, h]))])
      clear hpp
      go_wp2_with fail
      go_quiet (fail)
      have HFF := Lib.hid (HBW4.out nq)
      go_wp2
      go_ret
      exact ⟨ret_int HR0.out.symm, HFF.out⟩
  · by_cases hl0 : l = []
    · have HR0 : Hid (refM A (at', 3, fd, rk, mn, bd) = 8) := Lib.hid (by rw [refM_3, ← HL.out, if_pos hl0])
      have HF := Lib.hid (HBW.out _ (Below.refl _ _))
      have HNF := Lib.hid (NoneFaultR_any true w3)
      subst hl0
      go_wp2_with fail
      refine HNF.out.mono ?_
      rintro r w4 ⟨rfl, rfl⟩
      go_wp2
      go_ret
      exact ⟨ret_int HR0.out.symm, HF.out⟩
    · have HR0 : Hid (refM A (at', 3, fd, rk, mn, bd) = 0) := Lib.hid (by rw [refM_3, ← HL.out, if_neg hl0])
      have hp3 : ((l.length : Int) == 0) = false := by have := List.length_pos_iff.2 hl0; simp; omega
      have hp4 : ¬ (l.length : Int) = 0 := by simpa using hp3
      have hp5 : ¬ l.length = 0 := by omega
      have HF := Lib.hid (HBW.out _ (Below.refl _ _))
      have HNF := Lib.hid (NoneFaultR_any false w3)
      clear hl0
      go_wp2_with fail
      refine HNF.out.mono ?_
      rintro r w4 ⟨rfl, rfl⟩
      go_wp2
      go_ret
      exact ⟨ret_int HR0.out.symm, HF.out⟩
  · have HF0 := Lib.hid (HBW.out _ (Below.refl _ _))
    by_cases hl0 : l = []
    · have HR0 : Hid (refM A (at', 4, fd, rk, mn, bd) = 8) := Lib.hid (by rw [refM_4, ← HL.out, if_pos hl0])
      subst hl0
      go_wp2
      go_ret
      exact ⟨ret_int HR0.out.symm, HF0.out⟩
    have hp3 : ((l.length : Int) == 0) = false := by have := List.length_pos_iff.2 hl0; simp; omega
    have hp4 : ¬ (l.length : Int) = 0 := by simpa using hp3
    have hp5 : ¬ l.length = 0 := by omega
    have HSUM : Hid (∀ W, Below w3.heap.size w3 W → Calls Tryz.prog 85 #[.pointer (some ⟨L.S, 0, none⟩), .string fd] W fun e w' => e = .returned (.int .i64 (sumL A.left l)) ∧ w' = W) := Lib.hid fun W hW => by
      have h2 := H1.out.low (Bl.trans HB3.out hW)
      have h3 := rsum_any L.S L.m1 L.m2 L.B fd W s.V s.F h2.cells.2.1 h2.cells.2.2 h2.mV h2.mF h2.rf HFD.out
        (fun x hx => Nat.le_trans (HII.out.sz fd x (by rw [← HRR.out.row]; exact hx)) (by unfold maxLen; omega)) (by rw [HRR.out.row]; have h1 := HII.out.ln fd; have h2 := HNN.out; omega) (fun x => by rw [HRR.out.left]; exact HII.out.lf x)
      rw [HRR.out.left, HRR.out.row, ← HL.out] at h3
      exact h3.mono fun _ _ h => ⟨h.1, h.2.symm⟩
    have HBW3 : Hid (∀ m, Below w.heap.size w (w3.drewN m)) := Lib.hid fun m => HBW.out _ (Bl.drewN (Below.refl _ _) m)
    by_cases hsm : sumL A.left l < mn
    · have HR0 : Hid (refM A (at', 4, fd, rk, mn, bd) = 16) := Lib.hid (by rw [refM_4, ← HL.out, if_neg hl0, if_pos hsm])
      have hsd : decide (sumL A.left l < mn) = true := decide_eq_true hsm
      clear hl0
      go_wp2_with fail
      go_quiet ((go_at_call 85; exact Calls.quiet_of_same (HSUM.out _ (Bl.drewN (Below.refl _ _) _))))
      have HFF := Lib.hid (HBW3.out nq)
      go_wp2
      go_ret
      exact ⟨ret_int HR0.out.symm, HFF.out⟩
    · have HR0 : Hid (refM A (at', 4, fd, rk, mn, bd) = 0) := Lib.hid (by rw [refM_4, ← HL.out, if_neg hl0, if_neg hsm])
      have hsd : decide (sumL A.left l < mn) = false := decide_eq_false hsm
      clear hl0
      go_wp2_with fail
      go_quiet ((go_at_call 85; exact Calls.quiet_of_same (HSUM.out _ (Bl.drewN (Below.refl _ _) _))))
      have HFF := Lib.hid (HBW3.out nq)
      go_wp2
      go_ret
      exact ⟨ret_int HR0.out.symm, HFF.out⟩
  · have HR0 : Hid (refM A (at', 5, fd, rk, mn, bd) = 0) := Lib.hid (refM_5 ..)
    have HF := Lib.hid (HBW.out _ (Below.refl _ _))
    go_wp2
    go_ret
    exact ⟨ret_int HR0.out.symm, HF.out⟩
end Go.Proofs.YtcfeoapbbkfbnaaGreatDoor
