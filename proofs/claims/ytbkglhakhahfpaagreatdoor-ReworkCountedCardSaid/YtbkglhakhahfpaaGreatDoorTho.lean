/- The next entry of a range over a map of names, with its value. No conditions. · those: which boards of the reference's shop are so, sorted. Conditions: names of at most 1000 bytes, fewer than 10^5 boards. -/
import Derived.Test.YtbkglhakhahfpaaGreatDoorSm
import Derived.Test.YtbkglhakhahfpaaGreatDoorHls
import Derived.Maps.RangeWalk
import Derived.Test.YtbkglhakhahfpaaGreatDoorRs
import Derived.Test.YtbkglhakhahfpaaGreatDoorRr
namespace Go.Proofs.YtbkglhakhahfpaaGreatDoor
open Go.RowKit Go.Sort Go.Maps Go.Lib

theorem next_sp {α : Type} {T : Mty α} (hT : T.Ok) {w : World} {ops : Array Oper} {rest : List Oper} {o : Oper} {a : Act} {Q : Exit → Act → World → Prop}
    (hg : o.guard = none) (it : Operand) (hop : o.op = Op.next it false) {b r n : Nat} {l : Sm α} {left : Lit → Bool} {cnt : Nat}
    (hit : a.eval it = .pointer (some ⟨r, 0, none⟩)) (h : w.ranges Tryz.prog 9 T.R b r n (.map (smD T l)) left cnt)
    (hDone : cnt = 0 → (∀ kl, left kl = false) → wpList Tryz.prog ops Q rest (a.put o.dst (.tuple #[.bool false])) w)
    (hMore : ∀ (x : Bs) (y : α) (w' : World) (cnt' : Nat), x.length ≤ maxLen → left (.string x) = true → l.get x = some y → w'.ranges Tryz.prog 9 T.R b r n (.map (smD T l)) (fun z => left z && !z.sameKey (.string x)) cnt' → cnt' < cnt →
      w.grownBy w' (some r) → w'.heap.size = w.heap.size → (Instr.entry (.pointer (some ⟨r, 0, none⟩))).run Tryz.prog w' = .ok (.tuple #[.string (baOf x), T.V y]) w' → wpList Tryz.prog ops Q rest (a.put o.dst (.tuple #[.bool true, .string (baOf x), T.V y])) w') :
    wpList Tryz.prog ops Q (o :: rest) a w :=
  wpList_next_ranges w hg it hop 9 strKd T.R encStr id (fun key kl hkey => by obtain ⟨x, hx, _⟩ := Maps.keyOf_str (k := 9) Tryz.underlying9 hkey; exact ⟨x, hx⟩) (fun v y _ => ⟨v, rfl⟩)
    b r n _ left cnt hit h hDone (fun x cv kl y w' cnt' hkey hlk hv hat hrg hlt hgr hsz hen => by
      obtain ⟨x', ex, rfl, hwx⟩ := Maps.keyOf_str (k := 9) Tryz.underlying9 hkey
      have e := encStr_inj ex
      subst e
      have hh := has_true_of_atKey hat
      rw [smD_has] at hh
      obtain ⟨u, hu⟩ : ∃ u, l.get x = some u := Option.isSome_iff_exists.1 hh
      have h1 := hat .nil
      rw [smD_get, hu] at h1
      obtain ⟨y1, y2⟩ := y
      have h2 : T.R cv = some (T.d u, y2) := by rw [show T.d u = y1 from h1]; exact hv
      obtain rfl := hT.inv _ _ _ h2
      exact hMore x u w' cnt' hwx hlk hu hrg hlt hgr hsz hen)
/-- names gathered in any order are those of a part of the map. -/
theorem gathered {α : Type} {m : Sm α} (hm : Sm.Ok m) (q : α → Bool) {acc : List Bs} (hn : acc.Nodup) (h : ∀ k, k ∈ acc ↔ ∃ b, m.get k = some b ∧ q b = true) : acc.Perm (Sm.keys (m.filter fun p => q p.2)) := by
  refine (List.perm_ext_iff_of_nodup hn (Sm.keys_nodup (List.Pairwise.filter _ hm))).2 fun k => ?_
  rw [h]
  constructor
  · rintro ⟨b, h1, h2⟩
    exact List.mem_map.2 ⟨(k, b), List.mem_filter.2 ⟨Sm.get_mem h1, h2⟩, rfl⟩
  · intro hk
    obtain ⟨p, hp, rfl⟩ := List.mem_map.1 hk
    obtain ⟨h1, h2⟩ := List.mem_filter.1 hp
    exact ⟨p.2, Sm.get_of_mem hm h1, h2⟩
theorem gather_none {α : Type} {m : Sm α} {β : Type} {n : Sm β} (hk : n.keys = m.keys) {U : Mty β} (q : α → Bool) : ([] : List Bs).Nodup ∧ ∀ k, k ∈ ([] : List Bs) ↔ ∃ b, m.get k = some b ∧ q b = true ∧ Maps.has (DataW.map (smD U n)) (.string k) = false := by
  refine ⟨List.nodup_nil, fun k => ⟨fun h => by simp at h, ?_⟩⟩
  rintro ⟨b, h1, _, h3⟩
  exfalso
  rw [smD_has, ← Bool.not_eq_true, Sm.has_iff, hk] at h3
  exact h3 (List.mem_map.2 ⟨(k, b), Sm.get_mem h1, rfl⟩)
theorem gather_step {α : Type} {m : Sm α} {q : α → Bool} {acc : List Bs} {left : Lit → Bool} {x : Bs} {b : α} (h : acc.Nodup ∧ ∀ k, k ∈ acc ↔ ∃ b, m.get k = some b ∧ q b = true ∧ left (.string k) = false) (hx : left (.string x) = true) (hb : m.get x = some b) :
    (if q b = true then acc ++ [x] else acc).Nodup ∧ ∀ k, k ∈ (if q b = true then acc ++ [x] else acc) ↔ ∃ b, m.get k = some b ∧ q b = true ∧ (left (.string k) && !(Lit.string k).sameKey (.string x)) = false := by
  have hxa : x ∉ acc := fun hm => by
    obtain ⟨_, _, _, h3⟩ := (h.2 x).1 hm
    rw [hx] at h3; cases h3
  have hl : ∀ k, (left (.string k) && !(Lit.string k).sameKey (.string x)) = false ↔ (left (.string k) = false ∨ k = x) := fun k => by
    rw [sm_same]
    by_cases e : k = x
    · simp [e]
    · simp [e]
  split
  · rename_i hq
    refine ⟨?_, fun k => ?_⟩
    · rw [List.nodup_append]
      exact ⟨h.1, by simp, fun a ha b hb => by rw [List.mem_singleton.1 hb]; exact fun e => hxa (e ▸ ha)⟩
    · rw [List.mem_append, List.mem_singleton, h.2]
      constructor
      · rintro (⟨b', h1, h2, h3⟩ | rfl)
        · exact ⟨b', h1, h2, (hl k).2 (.inl h3)⟩
        · exact ⟨b, hb, hq, (hl k).2 (.inr rfl)⟩
      · rintro ⟨b', h1, h2, h3⟩
        rcases (hl k).1 h3 with h4 | rfl
        · exact .inl ⟨b', h1, h2, h4⟩
        · exact .inr rfl
  · rename_i hq
    refine ⟨h.1, fun k => ?_⟩
    rw [h.2]
    constructor
    · rintro ⟨b', h1, h2, h3⟩
      exact ⟨b', h1, h2, (hl k).2 (.inl h3)⟩
    · rintro ⟨b', h1, h2, h3⟩
      rcases (hl k).1 h3 with h4 | rfl
      · exact ⟨b', h1, h2, h4⟩
      · rw [hb] at h1
        injection h1 with h1
        subst h1
        exact absurd h2 hq
end Go.Proofs.YtbkglhakhahfpaaGreatDoor
namespace Go.Proofs.YtbkglhakhahfpaaGreatDoor
open Go.RowKit Go.Sort Go.Maps Go.Lib

/-- a shop of the reference that holds these boards. -/
def ShopB (w : World) (S : Nat) (rh rr : Int) (m : Sm Bd0) : Prop := ∃ L, ShR w S rh rr L ∧ L.mapv (·.2) = m
theorem ShopB.below {w w' : World} {S : Nat} {rh rr : Int} {m : Sm Bd0} (h : ShopB w S rh rr m) (hb : Below w.heap.size w w') : ShopB w' S rh rr m := by
  obtain ⟨L, h1, h2⟩ := h
  exact ⟨L, h1.below hb, h2⟩
theorem flt_len {α : Type} (q : α → Bool) (m : Sm α) : (Sm.keys (m.filter fun p => q p.2)).length ≤ m.length := by
  rw [keys_len]; exact List.length_filter_le _ _
theorem range_off {α β : Type} {T : Rty α} {U : Mty β} {w : World} {B b r n cnt : Nat} {D : DataW Unit} {left : Lit → Bool} {v : Value} {l : List α} (hrg : w.ranges Tryz.prog 9 U.R b r n D left cnt) (hO : OwnR T w B v l) : some b ≠ v.ownBlock ∧ some r ≠ v.ownBlock := by
  obtain ⟨es, clock, since, seen, c0, hb, _, _, _, hr, _⟩ := hrg
  constructor
  · intro e
    obtain ⟨cur, hc⟩ := hO.blkT e.symm
    rw [hb] at hc
    injection hc with hc
    cases hc
  · intro e
    obtain ⟨cur, hc⟩ := hO.blkT e.symm
    rw [hr] at hc
    injection hc with hc
    cases hc
theorem OwnR.kept2 {α : Type} {T : Rty α} {w w' : World} {B r : Nat} {v : Value} {l : List α} (h : OwnR T w B v l) (hg : w.grownBy w' (some r)) (hn : v.ownBlock ≠ some r) : OwnR T w' B v l := by
  refine ⟨h.1, h.2.imp id ?_⟩
  rintro ⟨g, cap, cur, hv, hB, hc, rest⟩
  refine ⟨g, cap, cur, hv, hB, (hg.block g (blk_lt hc) fun e => hn ?_).trans hc, rest⟩
  rw [hv, ← e]; rfl
theorem acc_few {α : Type} {m : Sm α} {acc : List Bs} (hn : acc.Nodup) (h : ∀ k ∈ acc, ∃ b, m.get k = some b) : acc.length ≤ m.length := by
  rw [← keys_len m]
  exact List.Nodup.length_le_of_subset hn fun k hk => by
    obtain ⟨b, hb⟩ := h k hk
    exact List.mem_map.2 ⟨(k, b), Sm.get_mem hb, rfl⟩
set_option maxHeartbeats 4000000 in
set_option maxRecDepth 100000 in
theorem those_any (S : Nat) (rh rr : Int) (m : Sm Bd0) (w : World) (h : ShopB w S rh rr m) (fid : Nat) (caps : Array Value) (cargs : Value → Array Value) (x : Value)
    (hcl : (fid = 191 ∧ caps = #[x] ∧ cargs = fun a => #[a, x]) ∨ False)
    (q : Bd0 → Bool) (hq : ∀ W g k b, Below w.heap.size w W → LifeM W g b → m.get k = some b → Calls Tryz.prog fid (cargs (.pointer (some ⟨g, 0, none⟩))) W fun e w' => e = .returned (.bool (q b)) ∧ Below W.heap.size W w')
    (hm : m.length ≤ 100000) :
    Calls Tryz.prog 190 #[.pointer (some ⟨S, 0, none⟩), .func (.func fid) #[] caps] w fun e w' => (∃ v, e = .returned v ∧ OwnR TS w' w.heap.size v ((Sm.keys (m.filter fun p => q p.2)).map baOf)) ∧ Below w.heap.size w w' := by
  obtain ⟨L, hL, hLm⟩ := h
  have lS := hL.lt
  have c1 : w.cell? ⟨S, 2, none⟩ = some (.map (some (S - 1))) := blk_cell hL.blk 2
  have hOk : Sm.Ok m := by rw [← hLm]; exact hL.ok.mapv
  have hll : (L.mapv fun x => some x.1).length = m.length := by rw [← hLm, Sm.len_mapv, Sm.len_mapv]
  have hO2 := hL.map.2
  have HKE : Hid ((L.mapv fun x => some x.1).keys = m.keys) := Lib.hid (by rw [← hLm, Sm.keys_mapv, Sm.keys_mapv])
  have HL := Lib.hid hL
  have HLM := Lib.hid hLm
  have HQ := Lib.hid hq
  have HOK := Lib.hid hOk
  rw [hll] at hO2
  have HM := Lib.hid hm
  clear hL hLm hq hOk hll hm
  rcases hcl with ⟨rfl, rfl, rfl⟩ | hF
  all_goals first | exact False.elim (by assumption) | skip
  all_goals (
    go_enter Tryz.func190, Tryz.ntmps190
    go_wp2_with (first
      | (at_range; refine wpList_range_own _ rfl _ 269 rfl 9 178 strKd Tryz.underlying269 _ (S - 1) m.length (.map (smD TPL (L.mapv fun x => some x.1))) rfl hO2 ?_; intro w0 hrg0 hg0 hs0)
      | go_in)
    go_loopw [5] (fun ov wr => ∃ (acc : List Bs) (left : Lit → Bool) (cnt : Nat), wr.ranges Tryz.prog 9 TPL.R (S - 1) w.heap.size m.length (.map (smD TPL (L.mapv fun x => some x.1))) left cnt ∧ OwnR TS wr w.heap.size ov (acc.map baOf) ∧ Hid (acc.Nodup ∧ ∀ k, k ∈ acc ↔ ∃ b, m.get k = some b ∧ q b = true ∧ left (.string k) = false) ∧ Below w.heap.size w wr ∧ w.heap.size < wr.heap.size) (fun _ wr => wr.rangeLeft (S - 1) w.heap.size)
    case atStart => exact ⟨[], _, _, hrg0, OwnR.nil _ _, Lib.hid (gather_none (by rw [HKE.out]) q), Gr.below_none hg0, by omega⟩
    case round =>
      obtain ⟨acc, left, cnt, hrg, hO, HA, hbr, hsz⟩ := hrel
      obtain ⟨oa, on, oc, rfl⟩ : ∃ a n c, u5 = .slice a n c := (by obtain ⟨a, c, h, _, _⟩ := hO.form; exact ⟨a, _, c, h⟩)
      have hfew : acc.length ≤ 100000 := Nat.le_trans (acc_few HA.out.1 fun k hk => by obtain ⟨b, h1, _⟩ := (HA.out.2 k).1 hk; exact ⟨b, h1⟩) HM.out
      have HO := Lib.hid hO
      clear hO
      go_wp2_with (first
        | (at_next; refine next_sp TPL.ok rfl _ rfl rfl hrg ?_ ?_)
        | go_in)
      · intro _ hl0
        have HP := Lib.hid (gathered HOK.out q HA.out.1 fun k => by rw [HA.out.2 k]; simp [hl0])
        have HS := Lib.hid (SortK_any (m := m.filter fun p => q p.2) (List.Pairwise.filter _ HOK.out) acc HP.out w.heap.size _ wr HO.out (by omega))
        have HB := Lib.hid hbr
        go_wp2_with fail
        refine HS.out.mono ?_
        rintro e w2 ⟨rfl, hO2, hg2⟩
        have HF := Lib.hid (And.intro hO2 (Below.trans HB.out (app_belowR HO.out hg2 HB.out.size)))
        clear hO2 hg2
        go_wp2
        go_ret
        exact ⟨⟨_, rfl, HF.out.1⟩, HF.out.2⟩
      · intro x y w1 cnt1 hxl hlk hget hrg1 hlt hg1 hsz1 hen
        obtain ⟨g, b, hgb⟩ : ∃ g b, L.get x = some (g, b) ∧ y = some g := by
          rw [Sm.get_mapv] at hget
          cases hg : L.get x with
          | none => rw [hg] at hget; cases hget
          | some p => rw [hg] at hget; injection hget with hget; exact ⟨p.1, p.2, rfl, hget.symm⟩
        obtain ⟨hgb, rfl⟩ := hgb
        have hmb : m.get x = some b := by rw [← HLM.out, Sm.get_mapv, hgb]; rfl
        have hbr1 : Below w.heap.size w w1 := Below.trans hbr (Gr.below hg1 (Nat.le_refl _) (Nat.le_of_lt hsz))
        have HB1 := Lib.hid hbr1
        have HO1 : Hid (OwnR TS w1 w.heap.size (.slice oa on oc) (acc.map baOf)) := Lib.hid (HO.out.kept2 hg1 fun e => (range_off hrg HO.out).2 e.symm)
        have HC := HQ.out w1 g x b hbr1 ((HL.out.below hbr1).brd _ (Sm.get_mem hgb)).2 hmb
        have HST := Lib.hid (gather_step HA.out hlk hmb)
        obtain ⟨qb, hqb⟩ : ∃ qb, qb = q b := ⟨_, rfl⟩
        rw [← hqb] at HC HST
        have HC := Lib.hid HC
        clear hgb hmb hget hqb
        cases qb
        · have HST2 := Lib.hid (by have h := HST.out; simp only [Bool.false_eq_true, if_false] at h; exact h)
          clear HST
          go_wp2_with fail
          refine HC.out.mono ?_
          rintro e w2 ⟨rfl, hb2⟩
          have HF := Lib.hid (And.intro (HO1.out.below hb2) (Bl.trans HB1.out hb2))
          have hrg2 := hrg1.kept (Gr.of_below hb2 none) (by simp) (by simp)
          have hz2 := hb2.size
          clear hb2
          go_wp2
          go_roundw
          case rel => exact ⟨acc, _, cnt1, hrg2, HF.out.1, HST2, HF.out.2, by omega⟩
          case measure => rw [hrg2.left_eq, hrg.left_eq]; exact hlt
        · have HST2 := Lib.hid (by have h := HST.out; simp only [if_true] at h; exact h)
          clear HST
          go_wp2_with fail
          refine HC.out.mono ?_
          rintro e w2 ⟨rfl, hb2⟩
          have HF := Lib.hid (And.intro (HO1.out.below hb2) (Bl.trans HB1.out hb2))
          have hrg2 := hrg1.kept (Gr.of_below hb2 none) (by simp) (by simp)
          have hz2 := hb2.size
          clear hb2
          go_wp2_with (at_builtin; refine wp_app_rec TS.ok rfl _ _ rfl w.heap.size _ (acc.map baOf) rfl (HF.out.1.alloc _) w2.heap.size 1 (baOf x) rfl (blk_new w2 _) rfl (by rw [List.length_map]; omega) (by simp; omega) ?_)
          intro v3 w3 hO3 hg3 hb3
          have hA := hrg2.alloc (.cells #[.string (baOf x)] 9)
          have hof := range_off hA (HF.out.1.alloc (.cells #[.string (baOf x)] 9))
          have hrg3 := hA.kept hg3 hof.1 hof.2
          have HF3 := Lib.hid (And.intro (show OwnR TS w3 w.heap.size v3 ((acc ++ [x]).map baOf) by rw [List.map_append]; exact hO3) (Below.trans (Bl.alloc HF.out.2 (.cells #[.string (baOf x)] 9)) hb3))
          have hz3 := hb3.size
          simp at hz3
          clear hO3 hg3 hb3 hof hA
          go_wp2
          go_roundw
          case rel => exact ⟨acc ++ [x], _, cnt1, hrg3, HF3.out.1, HST2, HF3.out.2, by omega⟩
          case measure => rw [hrg3.left_eq, hrg.left_eq]; exact hlt)
end Go.Proofs.YtbkglhakhahfpaaGreatDoor
