/- Rows of slices of names of the call's own; the closure of tour.Held, which sorts what is held into a new row. Conditions: at most 100000 rows, 100 names each. -/
import Derived.Test.YtbkglhakhahfpaaGreatDoorHd5
import Derived.Test.YtbkglhakhahfpaaGreatDoorVals
import Derived.Deep.RegionLaw
namespace Go.Proofs.YtbkglhakhahfpaaGreatDoor
open Go.RowKit Go.Sort

abbrev Sl3 := Option Addr × Nat × Nat
def slV (s : Sl3) : Value := .slice s.1 s.2.1 s.2.2
def TL : Rty Sl3 := { e := 59, S := 65, k := 1, b := 24, z := .slice none 0 0, f := fun s => [.slice s.1 s.2.1 s.2.2] }
theorem TL.ok : TL.Ok := ⟨by kernel_rfl, Tryz.underlying65, rfl, by decide, fun _ => rfl, fun x u hu => by simp [TL] at hu; subst hu; rfl, by decide⟩
theorem OwnR.kept {α : Type} {T : Rty α} {w w' : World} {B : Nat} {row : Option Nat} {v : Value} {l : List α} (h : OwnR T w B v l) (hg : w.grownBy w' row) (hn : v.ownBlock = none ∨ v.ownBlock ≠ row) : OwnR T w' B v l := World.ownsRow.kept h hg hn
theorem OwnR.block {α : Type} {T : Rty α} {w : World} {B g : Nat} {v : Value} {l : List α} (h : OwnR T w B v l) (e : v.ownBlock = some g) : B ≤ g ∧ g < w.heap.size ∧ ∃ cur, w.heap[g]? = some (.cells cur T.e (0, 0)) := by
  rcases h.2 with ⟨rfl, _⟩ | ⟨g', cap, cur, rfl, hB, hb, _⟩
  · cases e
  · have : g' = g := by simpa [Value.ownBlock] using e
    subst this
    exact ⟨hB, blk_lt hb, cur, hb⟩
theorem OwnR.apart {α β : Type} {T : Rty α} {U : Rty β} (hTU : T.e ≠ U.e) {w : World} {B C : Nat} {v u : Value} {l : List α} {m : List β} (h : OwnR T w B v l) (k : OwnR U w C u m) : v.ownBlock = none ∨ v.ownBlock ≠ u.ownBlock := by
  cases e : v.ownBlock with
  | none => exact .inl rfl
  | some g =>
    refine .inr fun e2 => ?_
    obtain ⟨_, _, c1, h1⟩ := h.block e
    obtain ⟨_, _, c2, h2⟩ := k.block e2.symm
    rw [h1] at h2
    injection h2 with h2
    injection h2 with _ h3 _
    exact hTU h3
theorem TLS : TL.e ≠ TS.e := by decide
theorem TSL : TS.e ≠ TL.e := by decide
/-- a call of a function of one argument, as one step of a region that draws. -/
theorem step_go1 {ops : Array Oper} {o : Oper} {a : Act} {w : World} {K : Act → World → Prop} {Q : Exit → Act → World → Prop} {E : Prop}
    (hg : o.guard = none) (f : Nat) (x : Operand) (ts : Array TypeId) (hop : o.op = Op.call { callee := Callee.value (Operand.func f), args := #[x], argTypes := ts }) (hent : ∀ args w, (callFunc f args).run Tryz.prog w = .ok (.enter f args) w)
    (vx : Value) (hx : a.eval x = vx) (R : Ending → World → Prop) (hc : Calls Tryz.prog f #[vx] w R) (hR : ∀ e w', R e w' → ∃ v, e = .returned v ∧ K (a.put o.dst v) w') :
    if Region.wanted o (yielded ops a.tmps) = true then Oper.wp Tryz.prog o a w K Q else E := by
  have hw : Region.wanted o (yielded ops a.tmps) = true := by simp [Region.wanted, hg]
  rw [if_pos hw]
  have hrun : (execOp a.eval o).run Tryz.prog w = .ok (.enter f #[vx]) w := by
    simp [execOp, hop, resolve, invoke, go_sem, hent]
    simpa [Act.eval] using hx
  unfold Oper.wp
  rw [hrun, Oper.upon_enter]
  refine hc.mono fun e w' h => ?_
  obtain ⟨v, rfl, hk⟩ := hR e w' h
  exact hk
/-- the box Bo holds a row of slices: these lists, each in a block of its own, none of them r. -/
structure HeldAt (B Bo : Nat) (r : Option Nat) (hs : List (List Nm)) (W : World) : Prop where
  ex : ∃ v sls, W.heap[Bo]? = some (.cells #[v] 65 (0, 0)) ∧ OwnR TL W B v sls ∧ sls.length = hs.length ∧
    (∀ (j : Nat) (s : Sl3) (h : List Nm), sls[j]? = some s → hs[j]? = some h → OwnR TS W B (slV s) h ∧ ((slV s).ownBlock = none ∨ (slV s).ownBlock ≠ r)) ∧
    (∀ (i j : Nat) (s t : Sl3), i < j → sls[i]? = some s → sls[j]? = some t → (slV s).ownBlock = none ∨ (slV s).ownBlock ≠ (slV t).ownBlock)
theorem HeldAt.start {B Bo : Nat} {W : World} (h : W.heap[Bo]? = some (.cells #[.slice none 0 0] 65 (0, 0))) (r : Option Nat) : HeldAt B Bo r [] W :=
  ⟨_, [], h, OwnR.nil _ _, rfl, fun j s h h1 _ => by simp at h1, fun i j s t _ h1 _ => by simp at h1⟩
theorem HeldAt.move {B Bo : Nat} {hs : List (List Nm)} {W W' : World} {vh : Value} {held : List Nm} {r' : Option Nat} (h : HeldAt B Bo vh.ownBlock hs W) (hO : OwnR TS W B vh held) (hBo : Bo < B) (hg : W.grownBy W' vh.ownBlock) (hr : r' = vh.ownBlock ∨ ∃ n, r' = some n ∧ W.heap.size ≤ n) : HeldAt B Bo r' hs W' := by
  obtain ⟨v, sls, hb, hv, hl, h1, h2⟩ := h.ex
  refine ⟨v, sls, (hg.block Bo (blk_lt hb) fun e => ?_).trans hb, hv.kept hg (hv.apart TLS hO), hl, fun j s x hs hx => ?_, h2⟩
  · have := (hO.block e.symm).1; omega
  · obtain ⟨a, b⟩ := h1 j s x hs hx
    refine ⟨a.kept hg b, ?_⟩
    rcases hr with rfl | ⟨n, rfl, hn⟩
    · exact b
    · cases e : (slV s).ownBlock with
      | none => exact .inl rfl
      | some g => exact .inr fun e2 => by injection e2 with e2; have := (a.block e).2.1; omega
theorem HeldAt.push {B Bo : Nat} {hs : List (List Nm)} {W W2 W3 : World} {r : Option Nat} {v v' : Value} {sls : List Sl3} {ua : Option Addr} {ucap : Nat} {m : List Nm}
    (hb : W.heap[Bo]? = some (.cells #[v] 65 (0, 0))) (hl : sls.length = hs.length)
    (h1 : ∀ (j : Nat) (s : Sl3) (h : List Nm), sls[j]? = some s → hs[j]? = some h → OwnR TS W B (slV s) h ∧ ((slV s).ownBlock = none ∨ (slV s).ownBlock ≠ r))
    (h2 : ∀ (i j : Nat) (s t : Sl3), i < j → sls[i]? = some s → sls[j]? = some t → (slV s).ownBlock = none ∨ (slV s).ownBlock ≠ (slV t).ownBlock)
    (hr : ∀ g, r = some g → g < W.heap.size) (hBo : Bo < B) (hBW : B ≤ W.heap.size)
    (hb2 : Below W.heap.size W W2) (hU : OwnR TS W2 W.heap.size (.slice ua m.length ucap) m) (hO2 : OwnR TL W2 B v sls) (hg : W2.grownBy W3 v.ownBlock) (hO3 : OwnR TL W3 B v' (sls ++ [(ua, m.length, ucap)])) :
    HeldAt B Bo r (hs ++ [m]) (W3.setCell ⟨Bo, 0, none⟩ v') := by
  have hbx2 := blk_below hb hb2
  have hbx3 : W3.heap[Bo]? = _ := (hg.block Bo (blk_lt hbx2) fun e => by have := (hO2.block e.symm).1; omega).trans hbx2
  have hset : W3.grownBy (W3.setCell ⟨Bo, 0, none⟩ v') (some Bo) := Gr.set (Gr.refl _ _) _ _ (.inl rfl) _
  have far : ∀ {u : Value} {l : List Nm}, OwnR TS W3 B u l → OwnR TS (W3.setCell ⟨Bo, 0, none⟩ v') B u l := fun h => h.far hBo 0 v'
  refine ⟨v', sls ++ [(ua, m.length, ucap)], blk_set hbx3 0 v', hO3.far hBo 0 v', by simp [hl], fun j s x hs' hx => ?_, fun i j s t hij hs' ht => ?_⟩
  · by_cases hj : j < sls.length
    · rw [List.getElem?_append_left hj] at hs'
      rw [List.getElem?_append_left (by omega)] at hx
      obtain ⟨a, b⟩ := h1 j s x hs' hx
      have a2 := a.below hb2
      exact ⟨far (a2.kept hg (a2.apart TSL hO2)), b⟩
    · have hj2 : j = sls.length := by
        have := (List.getElem?_eq_some_iff.1 hs').1
        simp at this; omega
      subst hj2
      rw [List.getElem?_append_right (Nat.le_refl _), Nat.sub_self] at hs'
      rw [List.getElem?_append_right (by omega), hl, Nat.sub_self] at hx
      simp at hs' hx
      subst hs' hx
      refine ⟨far ((OwnR.base hU hBW).kept hg ((OwnR.base hU hBW).apart TSL hO2)), ?_⟩
      cases e : (slV (ua, m.length, ucap)).ownBlock with
      | none => exact .inl rfl
      | some g => exact .inr fun e2 => by have := (OwnR.block hU e).1; have := hr g e2.symm; omega
  · have hjl := (List.getElem?_eq_some_iff.1 ht).1
    simp at hjl
    rw [List.getElem?_append_left (by omega)] at hs'
    by_cases hj : j < sls.length
    · rw [List.getElem?_append_left hj] at ht
      exact h2 i j s t hij hs' ht
    · have hj2 : j = sls.length := by omega
      subst hj2
      rw [List.getElem?_append_right (Nat.le_refl _), Nat.sub_self] at ht
      simp at ht
      subst ht
      obtain ⟨x, hx⟩ : ∃ x, hs[i]? = some x := ⟨_, List.getElem?_eq_getElem (by omega)⟩
      obtain ⟨a, _⟩ := h1 i s x hs' hx
      cases e : (slV s).ownBlock with
      | none => exact .inl rfl
      | some g => exact .inr fun e2 => by have := (a.block e).2.1; have := (OwnR.block hU e2.symm).1; omega
set_option maxHeartbeats 4000000 in
set_option maxRecDepth 100000 in
theorem held1_any (B Bo : Nat) (hs : List (List Nm)) (held : List Nm) (vh : Value) (W : World) (hI : HeldAt B Bo vh.ownBlock hs W) (hO : OwnR TS W B vh held) (hlen : held.length ≤ 100) (hsl : hs.length ≤ 100000) (hBo : Bo < B) (hBW : B ≤ W.heap.size) :
    Calls Tryz.prog 124 #[vh, .pointer (some ⟨Bo, 0, none⟩)] W fun e W' => e = .returned (.tuple #[]) ∧ HeldAt B Bo vh.ownBlock (hs ++ [sortN held]) W' ∧ OwnR TS W' B vh held ∧ Below Bo W W' := by
  obtain ⟨v, sls, hb, hv, hl, h1, h2⟩ := hI.ex
  obtain ⟨ha, hcap, rfl, _, _⟩ := hO.form
  obtain ⟨oa, ocap, rfl, _, _⟩ := hv.form
  have HCell := Lib.hid (show ∀ U, Below W.heap.size W U → U.cell? ⟨Bo, 0, none⟩ = some (.slice oa sls.length ocap) from fun U hU => (blk_cell (blk_below hb hU) 0 : _))
  have hb0 := Below.refl W.heap.size W
  have hb0d := Below.drew (Below.refl W.heap.size W)
  have c0 := HCell.out _ hb0
  have HS := Lib.hid (show ∀ U V : World, Below W.heap.size W U → V = U.alloc (.cells #[.slice ha held.length hcap] 59) → Calls Tryz.prog 96 #[.func (.func 205) #[] #[.pointer (some ⟨U.heap.size, 0, none⟩)]] V fun e W' => ∃ ua ucap, e = .returned (.slice ua (sortN held).length ucap) ∧ OwnR TS W' W.heap.size (.slice ua (sortN held).length ucap) (sortN held) ∧ Below W.heap.size W W' from by
    rintro U V hU rfl
    have hva := (ValsAt.of_rec (hO.below hU).rec).below (Bl.alloc (Below.refl U.heap.size U) (.cells #[.slice ha held.length hcap] 59))
    have hvb : ValsAt (U.alloc (.cells #[.slice ha held.length hcap] 59)).heap.size (U.alloc (.cells #[.slice ha held.length hcap] 59)) (.slice ha held.length hcap) held := by
      obtain ⟨a, c, e, hc⟩ := hva
      exact ⟨a, c, e, fun j hj => by obtain ⟨b, o, h1, h2, h3⟩ := hc j hj; exact ⟨b, o, h1, by simp; omega, h3⟩⟩
    refine (SortedV_any U.heap.size _ held (by omega) _ (by simp) (by rw [blk_cell (blk_new U _) 0]; rfl) hvb).mono ?_
    rintro e W' ⟨u, rfl, hu, hbu⟩
    obtain ⟨ua, ucap, rfl, _, _⟩ := hu.form
    have hA := Bl.alloc hU (.cells #[.slice ha held.length hcap] 59)
    exact ⟨ua, ucap, rfl, OwnR.base hu hA.size, Bl.trans hA hbu⟩)
  have HVal := Lib.hid (show ∀ U, Below W.heap.size W U → Calls Tryz.prog 125 #[.slice ha held.length hcap] U fun e w' => e = .returned (.func (.func 205) #[] #[.pointer (some ⟨U.heap.size, 0, none⟩)]) ∧ w' = U.alloc (.cells #[.slice ha held.length hcap] 59) from fun U hU => Values_any _ held U ((hO.below hU).rec0))
  have HFin := Lib.hid (show ∀ (U V : World) (ua : Option Addr) (ucap : Nat) (v' : Value), Below W.heap.size W U → OwnR TS U W.heap.size (.slice ua (sortN held).length ucap) (sortN held) → (U.alloc (.cells #[.slice ua (sortN held).length ucap] 59)).grownBy V (Value.slice oa sls.length ocap).ownBlock → OwnR TL V B v' (sls ++ [(ua, (sortN held).length, ucap)]) →
      HeldAt B Bo (Value.slice ha held.length hcap).ownBlock (hs ++ [sortN held]) (V.setCell ⟨Bo, 0, none⟩ v') ∧ OwnR TS (V.setCell ⟨Bo, 0, none⟩ v') B (.slice ha held.length hcap) held ∧ Below Bo W (V.setCell ⟨Bo, 0, none⟩ v') ∧ V.heap[Bo]? = some (.cells #[.slice oa sls.length ocap] 65 (0, 0)) from by
    intro U V ua ucap v' hU hu hg hO3
    have hA := Bl.alloc hU (.cells #[.slice ua (sortN held).length ucap] 59)
    have hvA := hv.below hA
    have hOA := hO.below hA
    have hx := blk_below hb hA
    have hx3 : V.heap[Bo]? = _ := (hg.block Bo (blk_lt hx) fun e => by have := (hvA.block e.symm).1; omega).trans hx
    refine ⟨HeldAt.push hb hl h1 h2 (fun g e => (hO.block e).2.1) hBo hBW hA (hu.alloc _) hvA hg hO3, (hOA.kept hg (hOA.apart TSL hvA)).far hBo 0 v', ?_, hx3⟩
    exact Bl.set ((hA.mono (by omega)).grown hg (by have := hA.size; omega) fun k e => by have := (hvA.block e).1; omega) Bo 0 (Nat.le_refl _) v')
  have hvo := fun U (hU : Below W.heap.size W U) => OwnR.below hv hU
  have HVO := Lib.hid hvo
  have hsl2 : sls.length ≤ 1000000 := by omega
  have HL := Lib.hid hl
  clear hI hO hb h1 h2 hvo hv hl
  go_enter Tryz.func124, Tryz.ntmps124
  go_wp2
  go_region_law (first
    | (refine step_go1 rfl 125 (.tmp 4) _ rfl (enters_of Tryz.func125 (by kernel_rfl) rfl) (.slice ha held.length hcap) (by simp [Act.eval, Act.put]) _ (HVal.out _ (by first | exact hb0d | exact hb0)) ?_; rintro e w1 ⟨rfl, hw1⟩; refine ⟨_, rfl, ?_⟩; have hb1 : Below W.heap.size W w1 := (by rw [hw1]; exact Bl.alloc (by first | exact hb0d | exact hb0) _); have HW1 := Lib.hid hw1; clear hw1; have c1 := HCell.out _ hb1)
    | (refine step_go1 rfl 96 (.tmp 5) _ rfl (enters_of Tryz.func96 (by kernel_rfl) rfl) (.func (.func 205) #[] #[.pointer (some ⟨W.heap.size, 0, none⟩)]) (by simp [Act.eval, Act.put]) _ (by first | exact HS.out W.drew w1 hb0d HW1.out | exact HS.out W w1 hb0 HW1.out) ?_; rintro e w2 ⟨ua, ucap, rfl, hu, hb2⟩; refine ⟨_, rfl, ?_⟩; have c2 := HCell.out _ hb2; have c2a := HCell.out _ (Bl.alloc hb2 (.cells #[.slice ua (sortN held).length ucap] 59)))
    | (refine step_app_rec TL.ok rfl (.tmp 3) (.tmp 7) rfl B _ sls (by simp [Act.eval, Act.put]) (HVO.out _ (Bl.alloc hb2 _)) w2.heap.size 1 (ua, (sortN held).length, ucap) (by simp [Act.eval, Act.put]) (blk_new w2 _) rfl hsl2 (Nat.le_trans hBW (Bl.alloc hb2 _).size) ?_; intro v3 w3 hO3 hg3 hb3; have hF := HFin.out w2 w3 ua ucap v3 hb2 hu hg3 hO3; have hc3 : w3.cell? ⟨Bo, 0, none⟩ = some (.slice oa sls.length ocap) := blk_cell hF.2.2.2 0; have hf3 := blk_free hF.2.2.2 0; obtain ⟨a3, c3, hv3, _, _⟩ := hO3.form; rw [List.length_append, List.length_singleton] at hv3; subst hv3))
  all_goals (
    go_wp2
    go_end0
    exact ⟨rfl, hF.1, hF.2.1, hF.2.2.1⟩)
end Go.Proofs.YtbkglhakhahfpaaGreatDoor
