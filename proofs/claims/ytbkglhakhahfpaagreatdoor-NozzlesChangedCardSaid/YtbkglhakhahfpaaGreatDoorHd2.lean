/- The contracts of tour.again and tour.victim; what holders have after each component, by index. Conditions: at most 100000 names. -/
import Derived.Test.YtbkglhakhahfpaaGreatDoorHd1
import Derived.Maps.AppendAt
namespace Go.Proofs.YtbkglhakhahfpaaGreatDoor
open Go.RowKit Go.Sort

section
variable {α : Type} [DecidableEq α] (lt : α → α → Bool)
/-- what is held after some steps. -/
def atH (h : Nat) (ks : List α) : Nat → List α
  | 0 => []
  | i + 1 => match ks[i]? with
    | some k => stepH lt h (atH h ks i) k (ks.drop (i + 1))
    | none => atH h ks i
theorem atH_succ {h : Nat} {ks : List α} {i : Nat} {k : α} (hk : ks[i]? = some k) : atH lt h ks (i + 1) = stepH lt h (atH lt h ks i) k (ks.drop (i + 1)) := by
  show (match ks[i]? with | some k => stepH lt h (atH lt h ks i) k (ks.drop (i + 1)) | none => atH lt h ks i) = _
  rw [hk]
theorem atH_ok (hN : Names lt) {h : Nat} (h1 : 1 ≤ h) (ks : List α) : ∀ i, Hld h (atH lt h ks i)
  | 0 => ⟨List.nodup_nil, Nat.zero_le _⟩
  | i + 1 => by
    cases hk : ks[i]? with
    | none => show Hld h (match ks[i]? with | some k => stepH lt h (atH lt h ks i) k (ks.drop (i + 1)) | none => atH lt h ks i); rw [hk]; exact atH_ok hN h1 ks i
    | some k => rw [atH_succ lt hk]; exact (stepH_ok lt hN h1 (atH_ok hN h1 ks i) k _).1
/-- the changes of the first steps. -/
def chgTo (h : Nat) (ks : List α) : Nat → Nat
  | 0 => 0
  | i + 1 => chgTo h ks i + match ks[i]? with
    | some k => missH (atH lt h ks i) k
    | none => 0
theorem chgTo_succ {h : Nat} {ks : List α} {i : Nat} {k : α} (hk : ks[i]? = some k) : chgTo lt h ks (i + 1) = chgTo lt h ks i + missH (atH lt h ks i) k := by
  show chgTo lt h ks i + (match ks[i]? with | some k => missH (atH lt h ks i) k | none => 0) = _
  rw [hk]
theorem chgTo_le (h : Nat) (ks : List α) : ∀ i, chgTo lt h ks i ≤ i
  | 0 => Nat.le_refl _
  | i + 1 => by
    have := chgTo_le h ks i
    show chgTo lt h ks i + (match ks[i]? with | some k => missH (atH lt h ks i) k | none => 0) ≤ _
    cases ks[i]? with
    | none => simp only; omega
    | some k =>
      simp only
      have : missH (atH lt h ks i) k ≤ 1 := by unfold missH; split <;> omega
      omega
theorem chg_split (h : Nat) (ks : List α) : ∀ i, i ≤ ks.length → chgTo lt h ks i + chgH lt h (atH lt h ks i) (ks.drop i) = chgH lt h [] ks
  | 0, _ => by simp [chgTo, atH]
  | i + 1, hi => by
    have ih := chg_split h ks i (by omega)
    obtain ⟨k, hk⟩ : ∃ k, ks[i]? = some k := ⟨_, List.getElem?_eq_getElem (by omega)⟩
    have hd : ks.drop i = k :: ks.drop (i + 1) := by
      rw [List.drop_eq_getElem_cons (by omega)]
      congr 1
      obtain ⟨hl, he⟩ := List.getElem?_eq_some_iff.1 hk
      exact he
    rw [hd] at ih
    rw [chgTo_succ lt hk, atH_succ lt hk]
    simp only [chgH] at ih
    omega
theorem chgTo_all (h : Nat) (ks : List α) : chgTo lt h ks ks.length = chgH lt h [] ks := by
  have := chg_split lt h ks ks.length (Nat.le_refl _)
  rw [List.drop_length] at this
  simpa [chgH] using this
end
theorem RecR.held {α : Type} {T : Rty α} {w w' : World} {gm : Nat} {sa : Option Addr} {n scap : Nat} {S : List α} (h : RecR T w 0 (.slice sa n scap) S) (hg : S ≠ [] → ∀ b, sa = some b → b.block < gm) (hb : Below gm w w') : RecR T w' 0 (.slice sa n scap) S := by
  obtain ⟨a, cap, hv, h1, h2, h3⟩ := h
  obtain ⟨rfl, rfl, rfl⟩ := Value.slice.inj hv
  refine ⟨_, _, rfl, h1, h2, fun j x hj => ?_⟩
  obtain ⟨b, o, ha, h0, hl, hc⟩ := h3 j x hj
  exact ⟨b, o, ha, h0, Nat.lt_of_lt_of_le hl hb.size, (hb.cell (p := ⟨b, o + j, none⟩) (hg (by rintro rfl; simp at hj) ⟨b, o, none⟩ ha)).trans hc⟩
/-- append of one record, and where the slice lies then. -/
theorem wp_app_rec_at {α : Type} {T : Rty α} (hT : T.Ok) {w : World} {ops : Array Oper} {rest : List Oper} {o : Oper} {a : Act} {Q : Exit → Act → World → Prop} (hgd : o.guard = none) (s x : Operand)
    (ho : o.op = .call { callee := .builtin .append, args := #[s, x], argTypes := #[T.S, T.S] }) (B : Nat) (v : Value) (l : List α) (hs : a.eval s = v) (hown : OwnR T w B v l)
    (g c : Nat) (y : α) (hx : a.eval x = .slice (some ⟨g, 0, none⟩) 1 c) {cs : Array Value} {t : TypeId} (hblk : w.heap[g]? = some (.cells cs t (0, 0))) (hcs : cs.toList = T.f y) (hlen : l.length ≤ 1000000) (hB : B ≤ w.heap.size)
    (h : ∀ v' w', OwnR T w' B v' (l ++ [y]) → w.grownBy w' v.ownBlock → Below B w w' → (v'.ownBlock = v.ownBlock ∨ v'.ownBlock = some w.heap.size) → wpList Tryz.prog ops Q rest (a.put o.dst v') w') : wpList Tryz.prog ops Q (o :: rest) a w := by
  obtain ⟨i, hi, hz0, hz1, hz2⟩ := info_parts hT.info
  refine wpList_append_own_at w hgd s x T.S ho B T.e i _ T.k T.b hT.sl hi hz0 hz1 hz2 hT.zs hT.pos v l.length (l.flatMap T.f) hs hown ⟨g, 0, none⟩ 1 c (T.f y) hx (by rw [hT.len, Nat.one_mul]) ?_ (hT.one y) (by unfold maxLen; omega) (by have := Nat.mul_le_mul (show l.length + 1 ≤ 1000001 by omega) hT.small; omega) hB ?_
  · intro j u hj
    rw [← hcs] at hj
    have : w.cell? ⟨g, j, none⟩ = some u := by rw [blk_cell hblk]; simpa using hj
    by_cases h0 : j = 0
    · subst h0; simpa [Addr.add] using this
    · simpa [Addr.add, h0] using this
  · intro v' w' h1 h2 _ h4
    refine h v' w' ?_ h2 (app_belowR hown h2 hB) h4
    unfold OwnR
    rw [List.length_append, List.flatMap_append, List.flatMap_singleton]
    exact h1
/-- a store of one name. -/
theorem OwnS.set {w : World} {B g n cap : Nat} {l : List Nm} (h : OwnR TS w B (.slice (some ⟨g, 0, none⟩) n cap) l) (hn : n = l.length) (j : Nat) (x : Nm) : OwnR TS (w.setCell ⟨g, j, none⟩ (.string x)) B (.slice (some ⟨g, 0, none⟩) n cap) (l.set j x) := by
  subst hn
  unfold OwnR at h ⊢
  rw [flat_str] at h ⊢
  have hs := (World.ownsRow.stored h j (.string x)).1
  rw [List.length_set, List.map_set]
  exact hs
theorem OwnS.free {w : World} {B g n cap : Nat} {l : List Nm} (h : OwnR TS w B (.slice (some ⟨g, 0, none⟩) n cap) l) (hn : n = l.length) (j : Nat) : w.frozen? ⟨g, j, none⟩ = false := by
  subst hn
  exact World.ownsRow.frozenAt h j

theorem againT_any (x : Nm) (later : List Nm) (v : Value) (w : World) (hlen : later.length ≤ 100000) (rl : RecR TS w 0 v later) :
    Calls Tryz.prog 262 #[.string x, v] w fun e w' => e = .returned (.int .i64 (idxD x later)) ∧ w = w' := by
  have HI := Lib.hid (IndexS_any later v x w hlen rl)
  obtain ⟨a, cap, rfl, hc1, hc2⟩ := rl.form
  by_cases hm : x ∈ later
  · rw [idxOfS_in hm] at HI
    clear hm rl
    go_enter Tryz.func262, Tryz.ntmps262
    go_wp2_with fail
    refine HI.out.mono ?_
    rintro e w' ⟨rfl, rfl⟩
    go_wp2
    go_ret
    exact ⟨rfl, rfl⟩
  · rw [idxOfS_out hm] at HI
    have HL := Lib.hid (idxD_none hm)
    clear hm rl
    go_enter Tryz.func262, Tryz.ntmps262
    go_wp2_with fail
    refine HI.out.mono ?_
    rintro e w' ⟨rfl, rfl⟩
    go_wp2
    go_ret
    exact ⟨ret_int (by rw [HL.out]), rfl⟩
end Go.Proofs.YtbkglhakhahfpaaGreatDoor
