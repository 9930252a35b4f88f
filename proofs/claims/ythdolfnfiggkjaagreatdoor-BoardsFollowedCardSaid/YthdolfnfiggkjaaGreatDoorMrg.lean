/- The next entry of a range over a map of names, with its value. No conditions. -/
import Derived.Test.YthdolfnfiggkjaaGreatDoorSm
import Derived.Test.YthdolfnfiggkjaaGreatDoorHls
import Derived.Maps.RangeWalk
namespace Go.Proofs.YthdolfnfiggkjaaGreatDoor
open Go.RowKit Go.Sort Go.Maps Go.Lib

theorem next_sp {α : Type} {T : Mty α} (hT : T.Ok) {w : World} {ops : Array Oper} {rest : List Oper} {o : Oper} {a : Act} {Q : Exit → Act → World → Prop}
    (hg : o.guard = none) (it : Operand) (hop : o.op = Op.next it false) {b r n : Nat} {l : Sm α} {left : Lit → Bool} {cnt : Nat}
    (hit : a.eval it = .pointer (some ⟨r, 0, none⟩)) (h : w.ranges Tryz.prog 9 T.R b r n (.map (smD T l)) left cnt)
    (hDone : cnt = 0 → (∀ kl, left kl = false) → wpList Tryz.prog ops Q rest (a.put o.dst (.tuple #[.bool false])) w)
    (hMore : ∀ (x : Bs) (y : α) (w' : World) (cnt' : Nat), x.length ≤ maxLen → left (.string x) = true → l.get x = some y → w'.ranges Tryz.prog 9 T.R b r n (.map (smD T l)) (fun z => left z && !z.sameKey (.string x)) cnt' → cnt' < cnt →
      w.grownBy w' (some r) → w'.heap.size = w.heap.size → (Instr.entry (.pointer (some ⟨r, 0, none⟩))).run Tryz.prog w' = .ok (.tuple #[.string (baOf x), T.V y]) w' → wpList Tryz.prog ops Q rest (a.put o.dst (.tuple #[.bool true, .string (baOf x), T.V y])) w') :
    wpList Tryz.prog ops Q (o :: rest) a w :=
  wpList_next_ranges w hg it hop 9 strKd T.R encStr id (fun key kl hkey => by obtain ⟨x, hx, _⟩ := Maps.keyOf_str (k := 9) Tryz.underlying9 hkey; exact ⟨x, hx⟩) (fun v y _ => ⟨v, rfl⟩)
    b r n _ left cnt hit h hDone (fun x cv kl y w' cnt' hkey hlk hv hat hrg hlt hgr hsz hen => by
      obtain ⟨x', ex, rfl, hwx⟩ := Maps.keyOf_str (k := 9) Tryz.underlying9 hkey
      have e := encStr_inj ex
      subst e
      have hh := has_true_of_atKey hat
      rw [smD_has] at hh
      obtain ⟨u, hu⟩ : ∃ u, l.get x = some u := Option.isSome_iff_exists.1 hh
      have h1 := hat .nil
      rw [smD_get, hu] at h1
      obtain ⟨y1, y2⟩ := y
      have h2 : T.R cv = some (T.d u, y2) := by rw [show T.d u = y1 from h1]; exact hv
      obtain rfl := hT.inv _ _ _ h2
      exact hMore x u w' cnt' hwx hlk hu hrg hlt hgr hsz hen)
/-- names gathered in any order are those of a part of the map. -/
theorem gathered {α : Type} {m : Sm α} (hm : Sm.Ok m) (q : α → Bool) {acc : List Bs} (hn : acc.Nodup) (h : ∀ k, k ∈ acc ↔ ∃ b, m.get k = some b ∧ q b = true) : acc.Perm (Sm.keys (m.filter fun p => q p.2)) := by
  refine (List.perm_ext_iff_of_nodup hn (Sm.keys_nodup (List.Pairwise.filter _ hm))).2 fun k => ?_
  rw [h]
  constructor
  · rintro ⟨b, h1, h2⟩
    exact List.mem_map.2 ⟨(k, b), List.mem_filter.2 ⟨Sm.get_mem h1, h2⟩, rfl⟩
  · intro hk
    obtain ⟨p, hp, rfl⟩ := List.mem_map.1 hk
    obtain ⟨h1, h2⟩ := List.mem_filter.1 hp
    exact ⟨p.2, Sm.get_of_mem hm h1, h2⟩
theorem gather_none {α : Type} {m : Sm α} {β : Type} {n : Sm β} (hk : n.keys = m.keys) {U : Mty β} (q : α → Bool) : ([] : List Bs).Nodup ∧ ∀ k, k ∈ ([] : List Bs) ↔ ∃ b, m.get k = some b ∧ q b = true ∧ Maps.has (DataW.map (smD U n)) (.string k) = false := by
  refine ⟨List.nodup_nil, fun k => ⟨fun h => by simp at h, ?_⟩⟩
  rintro ⟨b, h1, _, h3⟩
  exfalso
  rw [smD_has, ← Bool.not_eq_true, Sm.has_iff, hk] at h3
  exact h3 (List.mem_map.2 ⟨(k, b), Sm.get_mem h1, rfl⟩)
theorem gather_step {α : Type} {m : Sm α} {q : α → Bool} {acc : List Bs} {left : Lit → Bool} {x : Bs} {b : α} (h : acc.Nodup ∧ ∀ k, k ∈ acc ↔ ∃ b, m.get k = some b ∧ q b = true ∧ left (.string k) = false) (hx : left (.string x) = true) (hb : m.get x = some b) :
    (if q b = true then acc ++ [x] else acc).Nodup ∧ ∀ k, k ∈ (if q b = true then acc ++ [x] else acc) ↔ ∃ b, m.get k = some b ∧ q b = true ∧ (left (.string k) && !(Lit.string k).sameKey (.string x)) = false := by
  have hxa : x ∉ acc := fun hm => by
    obtain ⟨_, _, _, h3⟩ := (h.2 x).1 hm
    rw [hx] at h3; cases h3
  have hl : ∀ k, (left (.string k) && !(Lit.string k).sameKey (.string x)) = false ↔ (left (.string k) = false ∨ k = x) := fun k => by
    rw [sm_same]
    by_cases e : k = x
    · simp [e]
    · simp [e]
  split
  · rename_i hq
    refine ⟨?_, fun k => ?_⟩
    · rw [List.nodup_append]
      exact ⟨h.1, by simp, fun a ha b hb => by rw [List.mem_singleton.1 hb]; exact fun e => hxa (e ▸ ha)⟩
    · rw [List.mem_append, List.mem_singleton, h.2]
      constructor
      · rintro (⟨b', h1, h2, h3⟩ | rfl)
        · exact ⟨b', h1, h2, (hl k).2 (.inl h3)⟩
        · exact ⟨b, hb, hq, (hl k).2 (.inr rfl)⟩
      · rintro ⟨b', h1, h2, h3⟩
        rcases (hl k).1 h3 with h4 | rfl
        · exact .inl ⟨b', h1, h2, h4⟩
        · exact .inr rfl
  · rename_i hq
    refine ⟨h.1, fun k => ?_⟩
    rw [h.2]
    constructor
    · rintro ⟨b', h1, h2, h3⟩
      exact ⟨b', h1, h2, (hl k).2 (.inl h3)⟩
    · rintro ⟨b', h1, h2, h3⟩
      rcases (hl k).1 h3 with h4 | rfl
      · exact ⟨b', h1, h2, h4⟩
      · rw [hb] at h1
        injection h1 with h1
        subst h1
        exact absurd h2 hq
end Go.Proofs.YthdolfnfiggkjaaGreatDoor
