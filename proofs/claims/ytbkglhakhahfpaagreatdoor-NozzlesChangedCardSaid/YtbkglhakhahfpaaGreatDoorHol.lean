/- Plain law of HeldOf: what the reference takes away is what the program takes away; what it holds is what the program holds, in order. · slices.Clone and slices.Equal of names. Conditions: at most 100000 of them. -/
import Derived.Test.YtbkglhakhahfpaaGreatDoorHd2
namespace Go.Proofs.YtbkglhakhahfpaaGreatDoor
open Go.RowKit Go.Sort

theorem dropAt {α : Type} {l : List α} {k : Nat} {x : α} (hx : l[k]? = some x) : l.drop k = x :: l.drop (k + 1) := by
  obtain ⟨h, e⟩ := List.getElem?_eq_some_iff.1 hx
  rw [List.drop_eq_getElem_cons h, e]
theorem sortN_congr {a b : List ByteArray} (h : a.Perm b) : sortN a = sortN b :=
  List.Perm.eq_of_pairwise (le := fun x y => nlt y x = false) (fun x y _ _ h1 h2 => nlt_names.tot x y h2 h1) (sortN_sorted a) (sortN_sorted b) ((sortN_perm a).trans (h.trans (sortN_perm b).symm))
section
variable {α : Type} [DecidableEq α] (lt : α → α → Bool)
/-- when a name is needed again, as the reference counts. -/
def agR (l : List α) (x : α) : Int := if x ∈ l then (l.idxOf x : Int) else (l.length : Int) + 1
theorem agR_le (l : List α) (x : α) : 0 ≤ agR l x ∧ agR l x ≤ (l.length : Int) + 1 := by
  unfold agR
  have := List.idxOf_le_length (a := x) (l := l)
  split <;> omega
/-- how the reference orders what is held: needed latest again first, then by names. -/
def lateC (l : List α) (a b : α) : Int := if agR l b < agR l a then -1 else if agR l a < agR l b then 1 else if lt a b = true then -1 else if lt b a = true then 1 else 0
theorem lateC_neg (l : List α) (a b : α) : lateC lt l a b < 0 ↔ agR l b < agR l a ∨ agR l a = agR l b ∧ lt a b = true := by
  unfold lateC
  by_cases h1 : agR l b < agR l a
  · rw [if_pos h1]; exact ⟨fun _ => .inl h1, fun _ => by decide⟩
  · rw [if_neg h1]
    by_cases h2 : agR l a < agR l b
    · rw [if_pos h2]; exact ⟨fun h => absurd h (by decide), fun h => by omega⟩
    · rw [if_neg h2]
      by_cases h3 : lt a b = true
      · rw [if_pos h3]; exact ⟨fun _ => .inr ⟨by omega, h3⟩, fun _ => by decide⟩
      · rw [if_neg h3]
        refine ⟨fun h => ?_, fun h => ?_⟩
        · split at h <;> exact absurd h (by decide)
        · rcases h with h | ⟨_, h⟩
          · exact absurd h h1
          · exact absurd h h3
theorem lateC_later {l : List α} {v x : α} (h : ¬ lateC lt l x v < 0) : Later lt l v x := by
  rw [lateC_neg lt] at h
  unfold Later
  have hx : ∀ y, agR l y = if y ∈ l then (l.idxOf y : Int) else (l.length : Int) + 1 := fun y => rfl
  have hin : ∀ y, y ∈ l → l.idxOf y < l.length := fun y hy => List.idxOf_lt_length_of_mem hy
  have hout : ∀ y, y ∉ l → l.idxOf y = l.length := fun y hy => List.idxOf_eq_length hy
  have key : (agR l x = agR l v ↔ l.idxOf x = l.idxOf v) ∧ (agR l x < agR l v ↔ l.idxOf x < l.idxOf v) := by
    rw [hx, hx]
    by_cases h1 : x ∈ l <;> by_cases h2 : v ∈ l
    · rw [if_pos h1, if_pos h2]; exact ⟨by omega, by omega⟩
    · rw [if_pos h1, if_neg h2]; have := hin x h1; have := hout v h2; exact ⟨by omega, by omega⟩
    · rw [if_neg h1, if_pos h2]; have := hin v h2; have := hout x h1; exact ⟨by omega, by omega⟩
    · rw [if_neg h1, if_neg h2]; have := hout v h2; have := hout x h1; exact ⟨by omega, by omega⟩
  by_cases he : agR l x = agR l v
  · refine .inr ⟨key.1.1 he, ?_⟩
    cases hn : lt x v
    · rfl
    · exact absurd (.inr ⟨he, hn⟩) h
  · exact .inl (key.2.1 (by
      by_cases h3 : agR l v < agR l x
      · exact absurd (.inl h3) h
      · omega))
theorem lateC_trans (hN : Names lt) {l : List α} {x m z : α} (h1 : lateC lt l x m < 0) (h2 : ¬ lateC lt l z m < 0) : ¬ lateC lt l z x < 0 := by
  rw [lateC_neg lt] at *
  intro h3
  apply h2
  rcases h1 with h1 | ⟨h1, n1⟩ <;> rcases h3 with h3 | ⟨h3, n3⟩
  · exact .inl (by omega)
  · exact .inl (by omega)
  · exact .inl (by omega)
  · exact .inr ⟨by omega, hN.trans z x m n3 n1⟩
theorem lateC_self (hN : Names lt) (l : List α) (x : α) : ¬ lateC lt l x x < 0 := by
  rw [lateC_neg lt]
  rintro (h | ⟨_, h⟩)
  · omega
  · rw [hN.irr] at h; cases h
/-- the least by an order, the first one. -/
def minL (c : α → α → Int) : α → List α → α
  | m, [] => m
  | m, x :: r => minL c (if c x m < 0 then x else m) r
theorem minL_ok (hN : Names lt) (l : List α) : ∀ (r : List α) (m : α) (S : List α), m ∈ S → (∀ y ∈ S, ¬ lateC lt l y m < 0) → minL (lateC lt l) m r ∈ S ++ r ∧ ∀ y ∈ S ++ r, ¬ lateC lt l y (minL (lateC lt l) m r) < 0
  | [], m, S, hm, hS => by rw [List.append_nil]; exact ⟨hm, hS⟩
  | x :: r, m, S, hm, hS => by
    have hxx := lateC_self lt hN l x
    have := minL_ok hN l r (if lateC lt l x m < 0 then x else m) (S ++ [x]) (by split <;> simp [hm]) (fun y hy => by
      rw [List.mem_append, List.mem_singleton] at hy
      by_cases hc : lateC lt l x m < 0
      · rw [if_pos hc]
        rcases hy with hy | rfl
        · exact lateC_trans lt hN hc (hS y hy)
        · exact hxx
      · rw [if_neg hc]
        rcases hy with hy | rfl
        · exact hS y hy
        · exact hc)
    rw [List.append_assoc] at this
    exact this
end
/-- what the reference takes away is what the program takes away. -/
theorem held_vic {h : Nat} {c : List ByteArray} {k : ByteArray} (hc : Hld h c) (hk : k ∉ c) (later : List ByteArray) {x : ByteArray} {r : List ByteArray} (hs : sortN c = x :: r) :
    c[vic nlt later c]? = some (minL (lateC nlt (k :: later)) x r) := by
  have h0 : c ≠ [] := by rintro rfl; have := sortN_len []; rw [hs] at this; simp at this
  have hxx := lateC_self nlt nlt_names (k :: later) x
  obtain ⟨h1, h2⟩ := minL_ok nlt nlt_names (k :: later) r x [x] (by simp) (fun y hy => by rw [List.mem_singleton] at hy; subst hy; exact hxx)
  rw [show [x] ++ r = sortN c from hs.symm] at h1 h2
  obtain ⟨u, hu, hlu⟩ := vic_ok nlt nlt_names later (held := c) h0
  have hvc := (sortN_mem c _).1 h1
  have huc : u ∈ c := List.mem_of_getElem? hu
  rw [hu]
  congr 1
  refine later_one nlt nlt_names (hlu _ hvc) ?_
  have h3 := lateC_later nlt (h2 u ((sortN_mem c u).2 huc))
  exact later_tail nlt (fun e => hk (by rw [e]; exact huc)) (fun e => hk (by rw [e]; exact hvc)) h3
theorem held_law {h : Nat} {c : List ByteArray} {k : ByteArray} (hc : Hld h c) (hk : k ∉ c) (hl : c.length = h) (later : List ByteArray) {x : ByteArray} {r : List ByteArray} (hs : sortN c = x :: r) (p : ByteArray → Bool)
    (hp : ∀ y, p y = true ↔ y = minL (lateC nlt (k :: later)) x r) : sortN ((sortN c).filter (fun y => !p y) ++ [k]) = sortN (stepH nlt h c k later) := by
  have hv := held_vic hc hk later hs
  generalize minL (lateC nlt (k :: later)) x r = v at *
  refine sortN_congr ?_
  unfold stepH
  rw [if_neg hk, if_neg (by omega)]
  have hi := (List.getElem?_eq_some_iff.1 hv).1
  refine (List.perm_ext_iff_of_nodup ?_ (set_nodup hc.nd hk hi)).2 fun y => ?_
  · rw [List.nodup_append]
    refine ⟨List.Pairwise.filter _ ((sortN_perm c).nodup_iff.2 hc.nd), by simp, fun a ha b hb => ?_⟩
    simp only [List.mem_singleton] at hb
    subst hb
    rintro rfl
    exact hk ((sortN_mem c _).1 (List.mem_filter.1 ha).1)
  · rw [set_mem hc.nd hv, List.mem_append, List.mem_filter, List.mem_singleton, sortN_mem]
    have := hp y
    constructor
    · rintro (⟨h1, h2⟩ | rfl)
      · exact .inr ⟨h1, fun e => by rw [this.2 e] at h2; cases h2⟩
      · exact .inl rfl
    · rintro (rfl | ⟨h1, h2⟩)
      · exact .inr rfl
      · refine .inl ⟨h1, ?_⟩
        cases h3 : p y
        · rfl
        · exact absurd (this.1 h3) h2
theorem held_room {h : Nat} {c : List ByteArray} {k : ByteArray} (hk : k ∉ c) (hl : c.length < h) (later : List ByteArray) : sortN (sortN c ++ [k]) = sortN (stepH nlt h c k later) := by
  refine sortN_congr ?_
  unfold stepH
  rw [if_neg hk, if_pos hl]
  exact (sortN_perm c).append_right _
set_option maxHeartbeats 1000000 in
set_option maxRecDepth 100000 in
theorem CloneStr_any {l : List _} (v : Value) (w : World) (hlen : l.length ≤ 1000000) (rl : RecR TS w 0 v l) :
    Calls Tryz.prog 48 #[v] w fun e w' => ∃ v', e = .returned v' ∧ OwnR TS w' w.heap.size v' l ∧ Below w.heap.size w w' := by
  have q51 : ∀ (w : World) (a : Option Addr) (n c n' c' : Nat), (binOp .eql 59 (.slice a n c) (.slice none n' c')).run Tryz.prog w = .ok (.bool a.isNone) w := fun w a n c n' c' => Lib.run_eql_slice_nil w _ _ a n c n' c' Tryz.underlying59
  obtain ⟨a, cap, rfl, h1, h2⟩ := rl.form
  cases a with
  | none =>
    have hn : l = [] := by
      cases l with
      | nil => rfl
      | cons x r =>
        obtain ⟨b, o, e, _⟩ := rl.at TS.ok.len (i := 0) (x := x) rfl TS.ok.pos
        cases e
    subst hn
    clear rl
    go_enter Tryz.func48, Tryz.ntmps48
    go_wp2
    go_ret
    exact ⟨_, rfl, OwnR.nil _ _, Below.refl _ _⟩
  | some ad =>
    obtain ⟨_, _, hv, _, _, h3⟩ := rl
    obtain ⟨rfl, _, _⟩ := Value.slice.inj hv
    have HC : Hid (∀ j u, (l.flatMap TS.f)[j]? = some u → (w.alloc (.cells #[] TS.e)).cell? (ad.add j) = some u) := Lib.hid (by
      intro j u hj
      obtain ⟨b', o', e, _, hb, hcell⟩ := h3 j u hj
      injection e with e
      subst e
      have : (⟨b', o', none⟩ : Addr).add j = ⟨b', o' + j, none⟩ := by unfold Addr.add; split <;> simp_all
      rw [this]
      exact (World.cell?_alloc_past _ _ _ hb).trans hcell)
    obtain ⟨i, hi, hz0, hz1, hz2⟩ := info_parts TS.ok.info
    have HL := Lib.hid hlen
    have HF := Lib.hid (flat_len TS.ok.len l)
    have HO := Lib.hid (fun u (hu : u ∈ l.flatMap TS.f) => by
      obtain ⟨x, _, hx⟩ := List.mem_flatMap.1 hu
      exact TS.ok.one x u hx)
    have HB := Lib.hid (Nat.mul_le_mul (show l.length ≤ 1000000 from hlen) TS.ok.small)
    clear hv h3 hlen
    go_enter Tryz.func48, Tryz.ntmps48
    go_wp2_with (at_builtin; refine wpList_append_own _ rfl _ _ TS.S rfl w.heap.size TS.e i _ TS.k TS.b TS.ok.sl hi hz0 hz1 hz2 TS.ok.zs TS.ok.pos _ 0 [] rfl (World.ownsRow_made w #[] 0 (Nat.le_refl _) (by decide) rfl) ad l.length cap (l.flatMap TS.f) rfl HF.out HC.out HO.out (by unfold maxLen; have := HL.out; omega) (by have := HB.out; rw [Nat.zero_add]; omega) (by simp) ?c2)
    case c2 =>
      intro v' w' h4 h5 _
      have hbw : Below w.heap.size w w' := by
        have hg := h5
        refine ⟨hg.os, hg.tape, hg.output, Nat.le_trans (by simp) hg.size, fun k hk => ?_⟩
        rw [hg.block k (by simp; omega) (by simp [Value.ownBlock]; omega)]
        exact heap_alloc_old w _ hk
      go_wp2
      go_ret
      exact ⟨_, rfl, by unfold OwnR; simpa using h4, hbw⟩
theorem EqualStr_self (l : List Nm) (v u : Value) (w : World) (hl : l.length ≤ 100000) (rl : RecR TS w 0 v l) (rm : RecR TS w 0 u l) :
    Calls Tryz.prog 36 #[v, u] w fun e w' => e = .returned (.bool true) ∧ Below w.heap.size w w' := by
  obtain ⟨a1, c1, rfl, _, _⟩ := rl.form
  obtain ⟨a2, c2, rfl, _, _⟩ := rm.form
  by_cases h0 : l = []
  · subst h0
    refine (Tryz.slices_Equal_string_empty a1 a2 c1 0 c2 w (by omega)).mono ?_
    rintro e w' ⟨rfl, rfl⟩
    exact ⟨rfl, Below.refl _ _⟩
  · obtain ⟨y, hy⟩ : ∃ y, l[0]? = some y := ⟨_, List.getElem?_eq_getElem (List.length_pos_iff.2 h0)⟩
    obtain ⟨b1, o1, rfl, _, _, _⟩ := strs_at rl hy
    obtain ⟨b2, o2, rfl, _, _, _⟩ := strs_at rm hy
    refine (Tryz.slices_Equal_string b1 o1 l.length c1 b2 o2 l.length c2 l l w (Nat.le_refl _) (Nat.le_refl _) (by omega) (by omega) (strs_cells rl) (strs_cells rm)).mono ?_
    rintro e w' ⟨rfl, q, rfl⟩
    exact ⟨by simp, Bl.drewN (Below.refl _ _) q⟩
end Go.Proofs.YtbkglhakhahfpaaGreatDoor
